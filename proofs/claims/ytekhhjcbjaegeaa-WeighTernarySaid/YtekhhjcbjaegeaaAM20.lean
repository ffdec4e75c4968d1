/- The abstract machine: AM11, AM12, AM13, AM14, AM15, AM16, AM17, AM18, AM19, AM20, joined. -/
import Derived.Test.YtekhhjcbjaegeaaAM10
import Derived.Laws.BytesArg
import Derived.LoopNIn
import Derived.OrdersIn
import Derived.RangeFuncIn
import Derived.RangeFuncNested
/- One operation that is no call of a function. -/
set_option linter.all false
namespace Go.AM
open Go
variable {P : Program}

/-! ### Bytes to a string -/
def byteNums : List Value → Option (List Int)
  | [] => some []
  | .int .u8 n :: l => (byteNums l).map (n :: ·)
  | _ :: _ => none
theorem byteNums_some : ∀ {l : List Value} {xs : List Int}, byteNums l = some xs → l = xs.map (Value.int .u8)
  | [], xs, h => by simp [byteNums] at h; subst h; rfl
  | v :: l, xs, h => by
    unfold byteNums at h
    split at h
    · next hh => cases hh
    · next n l' hh =>
      injection hh with h1 h2; subst h1; subst h2
      simp only [Option.map_eq_some_iff] at h
      obtain ⟨ys, hy, rfl⟩ := h
      rw [byteNums_some hy]; rfl
    · cases h
def bytesType (P : Program) (s d : TypeId) : Bool :=
  match P.underlying s, P.underlying d with
  | some (.slice e), some .string => match P.underlying e with | some (.int .u8) => true | _ => false
  | _, _ => false
theorem bytesType_some {s d : TypeId} (h : bytesType P s d = true) : ∃ e, P.underlying s = some (.slice e) ∧ P.underlying e = some (.int .u8) ∧ P.underlying d = some .string := by
  unfold bytesType at h
  split at h
  · next e h1 h2 =>
    split at h
    · next h3 => exact ⟨e, h1, h3, h2⟩
    · cases h
  · cases h
def aconv (P : Program) (s d : TypeId) (x : Value) (h : Heap) : Option Value :=
  bif bytesType P s d then
    match x with
    | .slice none _ _ => some (.string .empty)
    | .slice (some ⟨b, o, _⟩) n _ => (h.rd b).bind fun cs => (cut cs o n).bind fun l => (byteNums l).map fun xs => .string (strOfNums xs)
    | _ => none
  else bif flat x then flatRun P (convert s d x) else none
theorem aconv_sound {ρ : Rho} {h : Heap} {w : World} {s d : TypeId} {x x' v : Value} (H : HR ρ h w) (hx : VR ρ x x') (e : aconv P s d x h = some v) : Quiet P ρ w v (convert s d x') := by
  unfold aconv at e
  cases hb : bytesType P s d with
  | true =>
    rw [hb] at e
    obtain ⟨el, h1, h2, h3⟩ := bytesType_some hb
    simp only [cond_true] at e
    split at e
    · next l c =>
      injection e with e; subst e
      obtain rfl : x' = .slice none l c := hx.eq_of_flat1 rfl
      exact ⟨_, run_convert_bytes_nil w s el h1 h2 l c d h3, .fl rfl⟩
    · next b o f n c =>
      simp only [Option.bind_eq_some_iff, Option.map_eq_some_iff] at e
      obtain ⟨cs, hcs, l, hl, xs, hxs, rfl⟩ := e
      obtain ⟨B, base, c', hρ, rfl, _, _, _⟩ := hx.slice_inv
      have hbr := Heap.rd_blk H hcs hρ
      obtain ⟨C, t, fr, e1, hs, hv⟩ := hbr
      have hlx := byteNums_some hxs
      obtain ⟨hle, hll, hlo⟩ := cut_some hl
      have hlen : xs.length = n := by rw [hlx] at hll; simpa using hll
      refine ⟨_, run_convert_bytes_arg w s el h1 h2 B (base + o) n c' xs hlen (fun i hi => ?_) d h3, .fl rfl⟩
      have hci : cs[o + i]? = some (.int .u8 (xs.getD i 0)) := by
        have : l[i]? = some (.int .u8 (xs.getD i 0)) := by
          rw [hlx]; simp [List.getElem?_eq_getElem (show i < xs.length by omega), List.getD_eq_getElem?_getD]
        rw [hle, List.getElem?_take, if_pos hi, List.getElem?_drop] at this
        exact this
      obtain ⟨v', e2, r⟩ := hv _ _ hci
      rw [cell_at e1, Nat.add_assoc, e2, r.int_inv]
    · cases e
  | false =>
    rw [hb] at e
    simp only [cond_false] at e
    cases hf : flat x with
    | false => rw [hf] at e; cases e
    | true =>
      rw [hf] at e
      obtain rfl := hx.eq_of_flat hf
      exact flatRun_quiet e

/-! ### Operands -/
def aevs (a : A) : List Operand → Option (List Value)
  | [] => some []
  | x :: l => (a.eval x).bind fun v => (aevs a l).map (v :: ·)
theorem AR.evs {ρ : Rho} {a : A} {c : Act} (r : AR ρ a c) : ∀ {l : List Operand} {vs : List Value}, aevs a l = some vs → VRl ρ vs (l.map c.eval)
  | [], vs, e => by simp [aevs] at e; subst e; exact VRl.nil _
  | x :: l, vs, e => by
    simp only [aevs, Option.bind_eq_some_iff, Option.map_eq_some_iff] at e
    obtain ⟨v, hv, vs', hvs, rfl⟩ := e
    exact VRl.cons (r.eval hv) (r.evs hvs)
def aparts (a : A) : List (Nat × Operand) → Option (List (Nat × Value))
  | [] => some []
  | (i, x) :: l => (a.eval x).bind fun v => (aparts a l).map ((i, v) :: ·)
theorem PRs.nil (ρ : Rho) : PRs ρ [] [] := ⟨rfl, fun i p e => by simp at e⟩
theorem PRs.mk {ρ : Rho} {i : Nat} {v v' : Value} {x x' : List (Nat × Value)} (h : VR ρ v v') (k : PRs ρ x x') : PRs ρ ((i, v) :: x) ((i, v') :: x') :=
  ⟨by simp [k.1], fun j p e => by
    cases j with
    | zero => simp at e; subst e; exact ⟨_, rfl, rfl, h⟩
    | succ j => simpa using k.2 j p (by simpa using e)⟩
theorem AR.parts {ρ : Rho} {a : A} {c : Act} (r : AR ρ a c) : ∀ {l : List (Nat × Operand)} {vs : List (Nat × Value)}, aparts a l = some vs → PRs ρ vs (l.map fun p => (p.1, c.eval p.2))
  | [], vs, e => by simp [aparts] at e; subst e; exact PRs.nil _
  | (i, x) :: l, vs, e => by
    simp only [aparts, Option.bind_eq_some_iff, Option.map_eq_some_iff] at e
    obtain ⟨v, hv, vs', hvs, rfl⟩ := e
    exact PRs.mk (r.eval hv) (r.parts hvs)
def aevO (a : A) : Option Operand → Option (Option Value)
  | none => some none
  | some x => (a.eval x).map some
theorem AR.evO {ρ : Rho} {a : A} {c : Act} (r : AR ρ a c) {x : Option Operand} {v : Option Value} (e : aevO a x = some v) : AM.OR ρ v (x.map c.eval) := by
  cases x with
  | none => simp [aevO] at e; subst e; trivial
  | some x =>
    simp only [aevO, Option.map_eq_some_iff] at e
    obtain ⟨u, hu, rfl⟩ := e
    exact r.eval hu

/-! ### Small operations -/
def anilCheck (x : Value) : Option Value :=
  match x with
  | .pointer (some _) | .func (.func _) _ _ | .iface _ _ => some x
  | _ => none
def aextract (x : Value) (i : Nat) : Option Value := match x with | .tuple vs => vs[i]? | _ => none
theorem aextract_sound {ρ : Rho} {w : World} {x x' v : Value} {i : Nat} (hx : VR ρ x x') (e : aextract x i = some v) : Quiet P ρ w v (Instr.extract x' i) := by
  unfold aextract at e
  split at e
  · next vs =>
    obtain ⟨vs', rfl, h⟩ := hx.tuple_inv
    obtain ⟨v', e', r⟩ := h.toList.2 i v (by simpa using e)
    have e2 : vs'[i]? = some v' := by simpa using e'
    exact ⟨v', by simp [Instr.extract, e2], r⟩
  · cases e
def isIface (P : Program) (t : TypeId) : Bool := match P.underlying t with | some (.interface _) => true | none => true | _ => false
def abuiltin (P : Program) (b : Builtin) (ats : Array TypeId) (ty : TypeId) (vs : List Value) (h : Heap) : Option (Value × Heap) :=
  match b with
  | .append => match vs with | [s, x] => aappend P ats s x h | _ => none
  | .copy => match vs with | [d, x] => acopy P ats d x h | _ => none
  | .len => match vs with | [x] => (alen P ats x h).map (·, h) | _ => none
  | .cap => match vs with | [x] => (acap P ats x).map (·, h) | _ => none
  | .max => bif vs.all flat1 then (flatRun P (Builtin.max_ ats ty vs.toArray)).map (·, h) else none
  | .min => bif vs.all flat1 then (flatRun P (Builtin.min_ ats ty vs.toArray)).map (·, h) else none
  | _ => none
theorem VRl.eq_of_flat {ρ : Rho} {x x' : List Value} (h : VRl ρ x x') (hf : x.all flat1 = true) : x' = x := by
  apply List.ext_getElem?
  intro i
  cases hx : x[i]? with
  | none =>
    rw [List.getElem?_eq_none_iff] at hx ⊢
    rw [← h.1]; exact hx
  | some v =>
    obtain ⟨v', e, r⟩ := h.2 i v hx
    rw [e, r.eq_of_flat1 (List.all_eq_true.1 hf v (List.mem_of_getElem? hx))]
theorem VRl.one {ρ : Rho} {v : Value} {x' : List Value} (h : VRl ρ [v] x') : ∃ v', x' = [v'] ∧ VR ρ v v' := by
  cases x' with
  | nil => have := h.1; simp at this
  | cons v' r =>
    cases r with
    | cons _ _ => have := h.1; simp at this
    | nil =>
      obtain ⟨u, e, r⟩ := h.2 0 v rfl
      simp at e; subst e
      exact ⟨_, rfl, r⟩
theorem VRl.two {ρ : Rho} {v u : Value} {x' : List Value} (h : VRl ρ [v, u] x') : ∃ v' u', x' = [v', u'] ∧ VR ρ v v' ∧ VR ρ u u' := by
  cases x' with
  | nil => have := h.1; simp at this
  | cons v' r =>
    cases r with
    | nil => have := h.1; simp at this
    | cons u' r =>
      cases r with
      | cons _ _ => have := h.1; simp at this
      | nil =>
        obtain ⟨a, e, r⟩ := h.2 0 v rfl
        obtain ⟨b, e', r'⟩ := h.2 1 u rfl
        simp at e e'; subst e; subst e'
        exact ⟨_, _, rfl, r, r'⟩
def bsem (b : Builtin) (ats : Array TypeId) (ty : TypeId) (args : Array Value) : Sem Value :=
  match b with
  | .append => Builtin.append_ ats ty args
  | .copy => Builtin.copy_ ats ty args
  | .len => Builtin.len_ ats ty args
  | .cap => Builtin.cap_ ats ty args
  | .max => Builtin.max_ ats ty args
  | .min => Builtin.min_ ats ty args
  | _ => stuck ""
def bknown : Builtin → Bool
  | .append | .copy | .len | .cap | .max | .min => true
  | _ => false
theorem abuiltin_known {b : Builtin} {ats : Array TypeId} {ty : TypeId} {vs : List Value} {h : Heap} {r : Value × Heap} (e : abuiltin P b ats ty vs h = some r) : bknown b = true := by
  unfold abuiltin at e
  split at e <;> first | rfl | cases e
theorem map_toArray (x : Array Operand) (f : Operand → Value) : (x.toList.map f).toArray = x.map f := by
  apply Array.ext'
  rw [List.toList_toArray, Array.toList_map]
theorem abuiltin_sound {ρ : Rho} {h h' : Heap} {w : World} {b : Builtin} {ats : Array TypeId} {ty : TypeId} {vs vs' : List Value} {v : Value} (H : HR ρ h w) (hv : VRl ρ vs vs') (e : abuiltin P b ats ty vs h = some (v, h')) : Does P ρ h w v h' (bsem b ats ty vs'.toArray) := by
  unfold abuiltin at e
  split at e
  · split at e
    · obtain ⟨a, b, rfl, h1, h2⟩ := hv.two
      exact aappend_sound (ty := ty) H h1 h2 e
    · cases e
  · split at e
    · obtain ⟨a, b, rfl, h1, h2⟩ := hv.two
      exact acopy_sound (ty := ty) H h1 h2 e
    · cases e
  · split at e
    · obtain ⟨a, rfl, h1⟩ := hv.one
      simp only [Option.map_eq_some_iff, Prod.mk.injEq] at e
      obtain ⟨u, hu, rfl, rfl⟩ := e
      exact Quiet.does H (alen_sound (ty := ty) H h1 hu)
    · cases e
  · split at e
    · obtain ⟨a, rfl, h1⟩ := hv.one
      simp only [Option.map_eq_some_iff, Prod.mk.injEq] at e
      obtain ⟨u, hu, rfl, rfl⟩ := e
      exact Quiet.does H (acap_sound (ty := ty) h1 hu)
    · cases e
  · cases hf : vs.all flat1 with
    | false => rw [hf] at e; cases e
    | true =>
      rw [hf] at e
      simp only [cond_true, Option.map_eq_some_iff, Prod.mk.injEq] at e
      obtain ⟨u, hu, rfl, rfl⟩ := e
      rw [hv.eq_of_flat hf]
      exact Quiet.does H (flatRun_quiet hu)
  · cases hf : vs.all flat1 with
    | false => rw [hf] at e; cases e
    | true =>
      rw [hf] at e
      simp only [cond_true, Option.map_eq_some_iff, Prod.mk.injEq] at e
      obtain ⟨u, hu, rfl, rfl⟩ := e
      rw [hv.eq_of_flat hf]
      exact Quiet.does H (flatRun_quiet hu)
  · cases e

/-- One operation that is no call of a function: its value (undef where it has none). -/
def aop (P : Program) (o : Oper) (a : A) (h : Heap) : Option (Value × Heap) :=
  match o.op with
  | .move x | .assign x => (a.eval x).map (·, h)
  | .pick c x y => (a.eval c).bind fun c => match c with | .bool b => (bif b then a.eval x else a.eval y).map (·, h) | _ => none
  | .alloc t => aalloc P t h
  | .box t x => (a.eval x).map fun v => abox v h
  | .build t ps => (aparts a ps.toList).bind fun l => (abuild P t l).map (·, h)
  | .buildSlice t len ps => (aparts a ps.toList).bind fun l => abuildSlice P t len l h
  | .load t x => (a.eval x).bind fun v => (aload P t v h).map (·, h)
  | .store t x y => (a.eval x).bind fun v => (a.eval y).bind fun u => (astore P t v u h).map (undef, ·)
  | .nilCheck x => (a.eval x).bind fun v => (anilCheck v).map (·, h)
  | .binOp op t x y _ => (a.eval x).bind fun v => (a.eval y).bind fun u => (abin P op t x y v u).map (·, h)
  | .unOp op _ x => (a.eval x).bind fun v => bif flat v then (flatRun P (Op.unary op v)).map (·, h) else none
  | .convert s d x => (a.eval x).bind fun v => (aconv P s d v h).map (·, h)
  | .makeInterface t x => (a.eval x).bind fun v => bif isIface P t then none else some (.iface t v, h)
  | .makeFunc (.func f) x y => (aevs a x.toList).bind fun l => (aevs a y.toList).map fun k => (.func (.func f) l.toArray k.toArray, h)
  | .makeMap _ none => some (amakeMap h)
  | .makeSlice t x y => (a.eval x).bind fun v => (a.eval y).bind fun u => amakeSlice P t v u h
  | .slice t x lo hi mx => (a.eval x).bind fun v => (aevO a lo).bind fun l => (aevO a hi).bind fun k => (aevO a mx).bind fun m => (aslice P t v l k m).map (·, h)
  | .fieldAddr s x f => (a.eval x).bind fun v => (afieldAddr P s v f).map (·, h)
  | .field s x f => (a.eval x).bind fun v => (afield P s v f).map (·, h)
  | .indexAddr t x i => (a.eval x).bind fun v => (a.eval i).bind fun u => (aindexAddr P t v u).map (·, h)
  | .index t x i => (a.eval x).bind fun v => (a.eval i).bind fun u => (aindex P t v u).map (·, h)
  | .lookup t x i ok => (a.eval x).bind fun v => (a.eval i).bind fun u => (alookup P t v u ok h).map (·, h)
  | .mapUpdate t m k x => (a.eval m).bind fun v => (a.eval k).bind fun u => (a.eval x).bind fun y => (amapUpdate P t v u y h).map (undef, ·)
  | .extract x i => (a.eval x).bind fun v => (aextract v i).map (·, h)
  | .call c => match c.callee with
    | .builtin b => (aevs a c.args.toList).bind fun l => abuiltin P b c.argTypes o.type l h
    | _ => none
  | _ => none

def DoesOp (P : Program) (ρ : Rho) (h : Heap) (w : World) (v : Value) (h' : Heap) (s : Sem Next) : Prop :=
  ∃ ρ' n v' w', s.run P w = .ok n w' ∧ (n = .value v' ∨ (n = .skip ∧ v' = undef)) ∧ VR ρ' v v' ∧ HR ρ' h' w' ∧ Ext ρ h w ρ' h' w'
theorem Does.op {ρ : Rho} {h h' : Heap} {w : World} {v : Value} {s : Sem Value} (d : Does P ρ h w v h' s) : DoesOp P ρ h w v h' (do pure (.value (← s)) : Sem Next) :=
  let ⟨ρ', v', w', e, r, H, E⟩ := d; ⟨ρ', _, v', w', by simp [e], .inl rfl, r, H, E⟩
theorem Quiet.op {ρ : Rho} {h : Heap} {w : World} {v : Value} {s : Sem Value} (H : HR ρ h w) (d : Quiet P ρ w v s) : DoesOp P ρ h w v h (do pure (.value (← s)) : Sem Next) := (d.does H).op
theorem pure_op {ρ : Rho} {h : Heap} {w : World} {v v' : Value} (H : HR ρ h w) (r : VR ρ v v') : DoesOp P ρ h w v h (pure (.value v') : Sem Next) := ⟨ρ, _, v', w, rfl, .inl rfl, r, H, Ext.refl _ _ _⟩
theorem skip_op {ρ : Rho} {h h' : Heap} {w : World} {s : Sem Unit} (d : ∃ w', s.run P w = .ok () w' ∧ HR ρ h' w' ∧ Ext ρ h w ρ h' w') : DoesOp P ρ h w undef h' (do s; pure .skip : Sem Next) :=
  let ⟨w', e, H, E⟩ := d; ⟨ρ, _, undef, w', by simp [e], .inr ⟨rfl, rfl⟩, VR_undef ρ, H, E⟩
theorem aop_sound {ρ : Rho} {h h' : Heap} {w : World} {o : Oper} {a : A} {c : Act} {v : Value} (H : HR ρ h w) (r : AR ρ a c) (e : aop P o a h = some (v, h')) : DoesOp P ρ h w v h' (execOp c.eval o) := by
  obtain ⟨dst, op, ty, pos, after, guard⟩ := o
  unfold aop at e
  unfold execOp
  simp only at e ⊢
  cases op <;> simp only at e ⊢ <;> first | (cases e; done) | skip
  case move x =>
    simp only [Option.map_eq_some_iff, Prod.mk.injEq] at e
    obtain ⟨u, hu, rfl, rfl⟩ := e
    exact pure_op H (r.eval hu)
  case assign x =>
    simp only [Option.map_eq_some_iff, Prod.mk.injEq] at e
    obtain ⟨u, hu, rfl, rfl⟩ := e
    exact pure_op H (r.eval hu)
  case pick c x y =>
    simp only [Option.bind_eq_some_iff] at e
    obtain ⟨u, hu, e⟩ := e
    split at e
    · next b =>
      have hb := (r.eval hu).bool_inv
      simp only [Option.map_eq_some_iff, Prod.mk.injEq] at e
      obtain ⟨u', hu', rfl, rfl⟩ := e
      cases b with
      | true =>
        have := r.eval hu'
        simp [hb, asBool]
        exact pure_op H this
      | false =>
        have := r.eval hu'
        simp [hb, asBool]
        exact pure_op H this
    · cases e
  case alloc t => exact (aalloc_sound H e).op
  case box t x =>
    simp only [Option.map_eq_some_iff] at e
    obtain ⟨u, hu, e⟩ := e
    have := abox_sound (P := P) (t := t) H (r.eval hu)
    rw [e] at this
    exact this.op
  case build t ps =>
    simp only [Option.bind_eq_some_iff, Option.map_eq_some_iff, Prod.mk.injEq] at e
    obtain ⟨l, hl, u, hu, rfl, rfl⟩ := e
    refine (abuild_sound (P := P) (w := w) ?_ hu).op H
    have := r.parts hl
    simpa using this
  case buildSlice t len ps =>
    simp only [Option.bind_eq_some_iff] at e
    obtain ⟨l, hl, e⟩ := e
    refine (abuildSlice_sound (P := P) (w := w) H ?_ e).op
    have := r.parts hl
    simpa using this
  case load t x =>
    simp only [Option.bind_eq_some_iff, Option.map_eq_some_iff, Prod.mk.injEq] at e
    obtain ⟨u, hu, u', hu', rfl, rfl⟩ := e
    exact Quiet.op H (aload_sound H (r.eval hu) hu')
  case store t x y =>
    simp only [Option.bind_eq_some_iff, Option.map_eq_some_iff, Prod.mk.injEq] at e
    obtain ⟨u, hu, u', hu', h2, e, rfl, rfl⟩ := e
    exact skip_op (astore_sound H (r.eval hu) (r.eval hu') e)
  case nilCheck x =>
    simp only [Option.bind_eq_some_iff, Option.map_eq_some_iff, Prod.mk.injEq] at e
    obtain ⟨u, hu, u', hu', rfl, rfl⟩ := e
    have hr := r.eval hu
    unfold anilCheck at hu'
    split at hu'
    · injection hu' with hu'; subst hu'
      next p => 
      generalize hx : c.eval x = x' at hr ⊢
      cases hr with
      | ptr k => exact pure_op H (.ptr k)
      | fl k => simp [flat1] at k
    · injection hu' with hu'; subst hu'
      generalize hx : c.eval x = x' at hr ⊢
      cases hr with
      | fn k1 k2 k3 k4 => exact pure_op H (.fn k1 k2 k3 k4)
      | fl k => simp [flat1] at k
    · injection hu' with hu'; subst hu'
      generalize hx : c.eval x = x' at hr ⊢
      cases hr with
      | iface k => exact pure_op H (.iface k)
      | fl k => simp [flat1] at k
    · cases hu'
  case binOp op t x y yt =>
    simp only [Option.bind_eq_some_iff, Option.map_eq_some_iff, Prod.mk.injEq] at e
    obtain ⟨u, hu, u', hu', u2, e, rfl, rfl⟩ := e
    exact Quiet.op H (abin_sound (r.eval hu) (r.eval hu') e)
  case unOp op t x =>
    simp only [Option.bind_eq_some_iff] at e
    obtain ⟨u, hu, e⟩ := e
    cases hf : flat u with
    | false => rw [hf] at e; cases e
    | true =>
      rw [hf] at e
      simp only [cond_true, Option.map_eq_some_iff, Prod.mk.injEq] at e
      obtain ⟨u', hu', rfl, rfl⟩ := e
      rw [(r.eval hu).eq_of_flat hf]
      exact Quiet.op H (flatRun_quiet hu')
  case convert s d x =>
    simp only [Option.bind_eq_some_iff, Option.map_eq_some_iff, Prod.mk.injEq] at e
    obtain ⟨u, hu, u', hu', rfl, rfl⟩ := e
    exact Quiet.op H (aconv_sound H (r.eval hu) hu')
  case makeInterface t x =>
    simp only [Option.bind_eq_some_iff] at e
    obtain ⟨u, hu, e⟩ := e
    cases hf : isIface P t with
    | true => rw [hf] at e; cases e
    | false =>
      rw [hf] at e
      simp only [cond_false, Option.some.injEq, Prod.mk.injEq] at e
      obtain ⟨rfl, rfl⟩ := e
      refine Quiet.op H ⟨.iface t (c.eval x), ?_, .iface (r.eval hu)⟩
      unfold isIface at hf
      split at hf
      · cases hf
      · cases hf
      · next h1 h2 =>
        cases hu2 : P.underlying t with
        | none => exact absurd hu2 h2
        | some d =>
          cases d with
          | interface ms => exact absurd hu2 (h1 ms)
          | _ => simp [Instr.makeInterface, run_underlying hu2]
  case makeFunc fn x y =>
    cases fn <;> simp only at e <;> first | (cases e; done) | skip
    simp only [Option.bind_eq_some_iff, Option.map_eq_some_iff, Prod.mk.injEq] at e
    obtain ⟨l, hl, k, hk, rfl, rfl⟩ := e
    refine Quiet.op H ⟨_, rfl, .fn' ?_ ?_⟩
    · rw [← map_toArray]; exact (r.evs hl).toArray
    · rw [← map_toArray]; exact (r.evs hk).toArray
  case makeMap t m =>
    cases m with
    | some m => cases e
    | none =>
      simp only [Option.some.injEq] at e
      have := amakeMap_sound (P := P) (t := t) H
      rw [e] at this
      exact this.op
  case makeSlice t x y =>
    simp only [Option.bind_eq_some_iff] at e
    obtain ⟨u, hu, u', hu', e⟩ := e
    exact (amakeSlice_sound H (r.eval hu) (r.eval hu') e).op
  case slice t x lo hi mx =>
    simp only [Option.bind_eq_some_iff, Option.map_eq_some_iff, Prod.mk.injEq] at e
    obtain ⟨u, hu, l, hl, k, hk, m, hm, u', hu', rfl, rfl⟩ := e
    exact Quiet.op H (aslice_sound (r.eval hu) (r.evO hl) (r.evO hk) (r.evO hm) hu')
  case fieldAddr s x f =>
    simp only [Option.bind_eq_some_iff, Option.map_eq_some_iff, Prod.mk.injEq] at e
    obtain ⟨u, hu, u', hu', rfl, rfl⟩ := e
    exact Quiet.op H (afieldAddr_sound (r.eval hu) hu')
  case field s x f =>
    simp only [Option.bind_eq_some_iff, Option.map_eq_some_iff, Prod.mk.injEq] at e
    obtain ⟨u, hu, u', hu', rfl, rfl⟩ := e
    exact Quiet.op H (afield_sound (r.eval hu) hu')
  case indexAddr t x i =>
    simp only [Option.bind_eq_some_iff, Option.map_eq_some_iff, Prod.mk.injEq] at e
    obtain ⟨u, hu, u2, hu2, u', hu', rfl, rfl⟩ := e
    exact Quiet.op H (aindexAddr_sound (r.eval hu) (r.eval hu2) hu')
  case index t x i =>
    simp only [Option.bind_eq_some_iff, Option.map_eq_some_iff, Prod.mk.injEq] at e
    obtain ⟨u, hu, u2, hu2, u', hu', rfl, rfl⟩ := e
    exact Quiet.op H (aindex_sound (r.eval hu) (r.eval hu2) hu')
  case lookup t x i ok =>
    simp only [Option.bind_eq_some_iff, Option.map_eq_some_iff, Prod.mk.injEq] at e
    obtain ⟨u, hu, u2, hu2, u', hu', rfl, rfl⟩ := e
    exact Quiet.op H (alookup_sound H (r.eval hu) (r.eval hu2) hu')
  case mapUpdate t m k x =>
    simp only [Option.bind_eq_some_iff, Option.map_eq_some_iff, Prod.mk.injEq] at e
    obtain ⟨u, hu, u2, hu2, u3, hu3, h2, e, rfl, rfl⟩ := e
    exact skip_op (amapUpdate_sound H (r.eval hu) (r.eval hu2) (r.eval hu3) e)
  case extract x i =>
    simp only [Option.bind_eq_some_iff, Option.map_eq_some_iff, Prod.mk.injEq] at e
    obtain ⟨u, hu, u', hu', rfl, rfl⟩ := e
    exact Quiet.op H (aextract_sound (r.eval hu) hu')
  case call cl =>
    obtain ⟨callee, args, ats⟩ := cl
    simp only at e
    cases callee with
    | builtin b =>
      simp only [Option.bind_eq_some_iff] at e
      obtain ⟨l, hl, e⟩ := e
      have hk := abuiltin_known e
      have hv := r.evs hl
      have := (abuiltin_sound (P := P) H hv e).op
      rw [map_toArray] at this
      cases b <;> first | (cases hk; done) | exact this
    | _ => cases e
end Go.AM
/- The abstract machine's run of code, of calls, of ranges over functions. -/
set_option linter.all false
namespace Go.AM
open Go
variable {P : Program}

/-- How code is left. -/
inductive AX where
  | normal
  | exit (id : Nat)
  | goto (l : Nat)
  | ret
def cx : AX → Exit
  | .normal => .normal
  | .exit i => .exit i
  | .goto l => .goto l
  | .ret => .ret
abbrev Res := Option (AX × A × Heap)
abbrev Rec := Option Nat → Code → A → Heap → Res
abbrev Prim := Nat → Option (List Value → Heap → Option (Value × Heap))

/-! ### Operations one after the other -/
def boolOf : Value → Option Bool
  | .bool b => some b
  | _ => none
def ayielded (ops : Array Oper) (a : A) (j : Nat) : Option Bool := ((ops[j]?).bind (·.dst)).bind fun t => boolOf ((a.tr.get t).getD undef)
def awanted (ops : Array Oper) (a : A) (o : Oper) : Bool :=
  match o.guard with
  | none => true
  | some (j, want) => match ayielded ops a j with | some b => b == want | none => false
theorem awanted_eq {ρ : Rho} {a : A} {c : Act} (r : AR ρ a c) (ops : Array Oper) (o : Oper) : Region.wanted o (yielded ops c.tmps) = awanted ops a o := by
  unfold Region.wanted awanted
  cases hg : o.guard with
  | none => rfl
  | some q =>
    obtain ⟨j, want⟩ := q
    simp only
    have key : yielded ops c.tmps j = ayielded ops a j := by
      unfold yielded ayielded
      cases ho : (ops[j]?).bind (·.dst) with
      | none => rfl
      | some t =>
        simp only [Option.bind_some]
        have ht := r.tmps t
        cases hc : c.tmps[t]? with
        | none =>
          have : c.tmps.getD t undef = undef := by simp [Array.getD_eq_getD_getElem?, hc]
          rw [this] at ht
          generalize (a.tr.get t).getD undef = x at ht ⊢
          cases x with
          | bool b => have := ht.bool_inv; cases this
          | _ => rfl
        | some u =>
          have : c.tmps.getD t undef = u := by simp [Array.getD_eq_getD_getElem?, hc]
          rw [this] at ht
          generalize (a.tr.get t).getD undef = x at ht ⊢
          cases ht with
          | fl e => cases u <;> rfl
          | _ => rfl
    rw [key]
    cases ayielded ops a j with
    | none => rfl
    | some b => rfl

def ofList (l : List Value) : Tr Value := (l.zipIdx.foldl (fun t p => t.set p.2 (some p.1)) Tr.nil)
def initA (fn : Func) (args : List Value) : A := ⟨ofList args, args.length + (fn.ntmps - args.length), []⟩
def resL (P : Program) (a : A) (h : Heap) : List ResultVar → Option (List Value)
  | [] => some []
  | .tmp t :: l => (resL P a h l).map ((a.tr.get t).getD undef :: ·)
  | .cell t ty :: l => (aload P ty ((a.tr.get t).getD undef) h).bind fun v => (resL P a h l).map (v :: ·)
def oneOf (l : List Value) : Value := match l with | [v] => v | l => .tuple l.toArray
def ares (P : Program) (fn : Func) (a : A) (h : Heap) : Option Value := (resL P a h fn.results.toList).map oneOf
def takeMarks : List Nat → Heap → Option Heap
  | [], h => some h
  | m :: ms, h => match h.get m with
    | some .mark => takeMarks ms (h.put m none)
    | _ => none
def callF (P : Program) (prim : Prim) (rec : Rec) (f : Nat) (args : List Value) (h : Heap) : Option (Value × Heap) :=
  match prim f with
  | some g => g args h
  | none => (P.funcs[f]?).bind fun fn => fn.body.bind fun c => (rec none c (initA fn args) h).bind fun q =>
      match q with
      | (.normal, a, h1) | (.ret, a, h1) => (takeMarks a.marks h1).bind fun h2 => (ares P fn a h2).map (·, h2)
      | _ => none
def jumpOf : AX → Option Code
  | .normal => none
  | .ret => some .ret
  | .exit i => some (.exit i)
  | .goto l => some (.goto l)
def setL (tr : Tr Value) (size : Nat) : List (Tmp × Value) → Option (Tr Value)
  | [] => some tr
  | (t, v) :: l => bif Nat.blt t size then setL (tr.set t (some v)) size l else none
def yieldF (rec : Rec) (l : Nat) (args : List Value) (h : Heap) : Option (Value × Heap) :=
  match h.get l with
  | some (.loop .ready p tr sz ps asg body mk) => bif Nat.beq args.length ps.size then
      (setL tr sz (ps.toList.zip args)).bind fun tr' => (rec (some l) asg ⟨tr', sz, []⟩ h).bind fun q =>
        match q with
        | (.normal, a1, h1) =>
          match h1.get l with
          | some (.loop .ready p1 tr1 sz1 ps1 asg1 body1 mk1) =>
            (rec (some l) body a1 (h1.put l (some (.loop .busy p1 tr1 sz1 ps1 asg1 body1 mk1)))).bind fun q2 =>
              match q2.2.2.get l with
              | some (.loop st2 p2 tr2 sz2 ps2 asg2 body2 mk2) =>
                some (.bool (jumpOf q2.1).isNone, q2.2.2.put l (some (.loop (bif (jumpOf q2.1).isNone then .ready else .done) (jumpOf q2.1) tr2 sz2 ps2 asg2 body2 mk2)))
              | _ => none
          | _ => none
        | _ => none else none
  | _ => none
def ocall (P : Program) (prim : Prim) (rec : Rec) (o : Oper) (a : A) (h : Heap) : Option (Value × Heap) :=
  match o.op with
  | .call c =>
    match c.callee with
    | .value g => (a.eval g).bind fun v => (aevs a c.args.toList).bind fun l =>
      match v with
      | .func (.func f) x y => callF P prim rec f (x.toList ++ l ++ y.toList) h
      | .func (.yield k) x y => bif x.isEmpty && y.isEmpty then yieldF rec k l h else none
      | _ => none
    | _ => none
  | _ => none
def ostep (P : Program) (prim : Prim) (rec : Rec) (o : Oper) (a : A) (h : Heap) : Option (Value × Heap) :=
  match aop P o a h with
  | some r => some r
  | none => ocall P prim rec o a h
def runOps (P : Program) (prim : Prim) (rec : Rec) (ops : Array Oper) : List Nat → A → Heap → Option (A × Heap)
  | [], a, h => some (a, h)
  | i :: l, a, h =>
    match ops[i]? with
    | none => runOps P prim rec ops l a h
    | some o =>
      bif awanted ops a o then (ostep P prim rec o a h).bind fun q => (a.put o.dst q.1).bind fun a' => runOps P prim rec ops l a' q.2
      else (a.put o.dst undef).bind fun a' => runOps P prim rec ops l a' h
def rangeF (P : Program) (prim : Prim) (rec : Rec) (ro : Option Nat) (g : Operand) (ps : Array Tmp) (asg body : Code) (a : A) (h : Heap) : Res :=
  (a.eval g).bind fun v =>
    match v with
    | .func (.func f) x y =>
      (match ro with
      | none => some (h.next, h.push .mark, h.next :: a.marks)
      | some l => match h.get l with
        | some (.loop _ _ _ _ _ _ _ mk) => some (mk, h, a.marks)
        | _ => none).bind fun q =>
        let L := q.2.1.next
        (callF P prim rec f (x.toList ++ [Value.func (.yield L) #[] #[]] ++ y.toList) (q.2.1.push (.loop .ready none a.tr a.size ps asg body q.1))).bind fun r =>
          match r.2.get L with
          | some (.loop st p tr2 sz2 ps2 asg2 body2 mk2) =>
            (match st with | .busy => none | _ => some ()).bind fun _ =>
              match p with
              | none => some (.normal, { a with marks := q.2.2 }, r.2.put L (some (.loop .exhausted none tr2 sz2 ps2 asg2 body2 mk2)))
              | some c => rec ro c { a with marks := q.2.2 } (r.2.put L (some (.loop .exhausted (some c) tr2 sz2 ps2 asg2 body2 mk2)))
          | _ => none
    | _ => none
abbrev Draw := Array Oper → Rec → A → Heap → Option (A × Heap)
def execF (P : Program) (prim : Prim) (rec : Rec) (drawn : Draw) (ro : Option Nat) (c : Code) (a : A) (h : Heap) : Res :=
  match c with
  | .skip | .label _ => some (.normal, a, h)
  | .ret => some (.ret, a, h)
  | .exit id => some (.exit id, a, h)
  | .goto l => some (.goto l, a, h)
  | .seq x y => (rec ro x a h).bind fun q => match q.1 with | .normal => rec ro y q.2.1 q.2.2 | _ => some q
  | .cond c x y => (a.eval c).bind fun v => match v with | .bool b => bif b then rec ro x a h else rec ro y a h | _ => none
  | .block id x => (rec ro x a h).map fun q => match q.1 with | .exit i => (bif Nat.beq i id then .normal else .exit i, q.2) | _ => q
  | .loop x => (rec ro x a h).bind fun q => match q.1 with | .normal => rec ro (.loop x) q.2.1 q.2.2 | _ => some q
  | .region _ ops d => (bif d then drawn ops rec a h else runOps P prim rec ops (List.range ops.size) a h).map fun q => (.normal, q.1, q.2)
  | .rangeFunc g ps asg body => rangeF P prim rec ro g ps asg body a h
  | _ => none
def exec (P : Program) (prim : Prim) (drawn : Draw) (n : Nat) : Rec := Nat.rec (motive := fun _ => Rec) (fun _ _ _ _ => none) (fun _ ih => execF P prim ih drawn) n
theorem exec_succ (P : Program) (prim : Prim) (drawn : Draw) (n : Nat) : exec P prim drawn (n + 1) = execF P prim (exec P prim drawn n) drawn := rfl
end Go.AM
/- What the abstract machine runs, the model's program runs. -/
set_option linter.all false
namespace Go.AM
open Go
variable {P : Program}

def FF (R : Option Nat) : Fence := { Fence.wide with round := R }
theorem FF_fn (R : Option Nat) (f : FuncId) : (FF R).fn f := trivial
theorem FF_depth (R : Option Nat) {n : Nat} : ((FF R).depth.isSome = true → 1 ≤ n) := fun h => by cases h
def roR (ρ : Rho) : Option Nat → Option Nat → Prop
  | none, none => True
  | some l, some L => ρ l = some (L, 0)
  | _, _ => False
theorem roR.mono {ρ ρ' : Rho} (h : Le ρ ρ') {a b : Option Nat} (r : roR ρ a b) : roR ρ' a b := by
  cases a <;> cases b <;> first | exact r | exact h.m _ _ r

/-- What a call of a function comes to. -/
def CallOK (P : Program) (f : Nat) (args : List Value) (h : Heap) (v : Value) (h' : Heap) : Prop :=
  ∀ (ρ : Rho) (w : World) (args' : List Value), HR ρ h w → VRl ρ args args' →
    CallsIn (FF none) 0 P f args'.toArray w fun e w' => ∃ ρ' v', e = .returned v' ∧ VR ρ' v v' ∧ HR ρ' h' w' ∧ Ext ρ h w ρ' h' w'
/-- What a round comes to. -/
def YieldOK (P : Program) (l : Nat) (args : List Value) (h : Heap) (v : Value) (h' : Heap) : Prop :=
  ∀ (ρ : Rho) (w : World) (args' : List Value) (L : Nat), HR ρ h w → VRl ρ args args' → ρ l = some (L, 0) →
    ∃ fn tmps asg body, (Instr.yield L args'.toArray).run P w = .ok (.round L fn tmps asg body) w ∧
      RoundIn (FF none) 0 P L fn tmps asg body w fun e w' => ∃ ρ' v', e = .returned v' ∧ VR ρ' v v' ∧ HR ρ' h' w' ∧ Ext ρ h w ρ' h' w'
/-- What code comes to. -/
def CodeOK (P : Program) (ro : Option Nat) (c : Code) (a : A) (h : Heap) (e : AX) (a' : A) (h' : Heap) : Prop :=
  ∀ (R : Option Nat) (ρ : Rho) (w : World) (b : Act) (Q : Exit → Act → World → Prop), HR ρ h w → AR ρ a b → roR ρ ro R →
    (∀ ρ' b' w', HR ρ' h' w' → AR ρ' a' b' → Ext ρ h w ρ' h' w' → Q (cx e) b' w') → c.wpIn (FF R) 0 P Q b w
def OpsOK (P : Program) (ops : Array Oper) (l : List Nat) (a : A) (h : Heap) (a' : A) (h' : Heap) : Prop :=
  ∀ (R : Option Nat) (ρ : Rho) (w : World) (b : Act) (Q : Exit → Act → World → Prop), HR ρ h w → AR ρ a b →
    (∀ ρ' b' w', HR ρ' h' w' → AR ρ' a' b' → Ext ρ h w ρ' h' w' → Q .normal b' w') → wpOpsIn (FF R) 0 P ops Q l b w
/-- What one operation comes to. -/
def StepOK (P : Program) (o : Oper) (a : A) (h : Heap) (v : Value) (h' : Heap) : Prop :=
  ∀ (R : Option Nat) (ρ : Rho) (w : World) (b : Act) (K : Act → World → Prop) (Q : Exit → Act → World → Prop), HR ρ h w → AR ρ a b →
    (∀ ρ' v' w', VR ρ' v v' → HR ρ' h' w' → Ext ρ h w ρ' h' w' → K (b.put o.dst v') w') → o.wpIn (FF R) 0 P b w K Q
/-- The functions that are taken as they are. -/
def PrimOK (P : Program) (prim : Prim) : Prop := ∀ f g, prim f = some g → ∀ args h v h', g args h = some (v, h') → CallOK P f args h v h'
def NamesOK (P : Program) : Prop := ∀ (f : Nat) (fn : Func) (c : Code), P.funcs[f]? = some fn → fn.body = some c → (fn.name == "runtime.NumGoroutine") = false

theorem step_of_op {o : Oper} {a : A} {h h' : Heap} {v : Value} (e : aop P o a h = some (v, h')) : StepOK P o a h v h' := by
  intro R ρ w b K Q H r k
  obtain ⟨ρ', n, v', w', hr, hn, hv, hH, hE⟩ := aop_sound H r e
  have hd : ∀ c, o.op ≠ .defer c := by
    intro c hc
    obtain ⟨dst, op, ty, pos, after, guard⟩ := o
    simp only at hc; subst hc
    simp [aop] at e
  refine ⟨fun _ _ => trivial, ?_⟩
  rw [Oper.semAt_eq _ _ _ hd, hr]
  rcases hn with rfl | ⟨rfl, rfl⟩
  · exact k ρ' v' w' hv hH hE
  · exact k ρ' undef w' hv hH hE
theorem run_callFunc {f : Nat} {fn : Func} {c : Code} {args : Array Value} {w : World} (hN : NamesOK P) (hf : P.funcs[f]? = some fn) (hb : fn.body = some c) : (callFunc f args).run P w = .ok (.enter f args) w := by
  have h1 : ¬ fn.name = "runtime.NumGoroutine" := by simpa using hN f fn c hf hb
  simp [callFunc, program, Sem.run, hf, h1, hb]
theorem VR.func_inv {ρ : Rho} {f : FuncId} {x y : Array Value} {v' : Value} (h : VR ρ (.func (.func f) x y) v') : ∃ x' y', v' = .func (.func f) x' y' ∧ VRs ρ x x' ∧ VRs ρ y y' := by
  cases h with
  | fn a b c d => exact ⟨_, _, rfl, ⟨a, b⟩, ⟨c, d⟩⟩
  | fl e => simp [flat1] at e
theorem VR.yield_inv {ρ : Rho} {l : Nat} {x y : Array Value} {v' : Value} (h : VR ρ (.func (.yield l) x y) v') : ∃ L, v' = .func (.yield L) #[] #[] ∧ ρ l = some (L, 0) := by
  cases h with
  | yield e => exact ⟨_, rfl, e⟩
  | fl e => simp [flat1] at e
theorem toArray_append3 (x : Array Value) (l : List Value) (y : Array Value) : (x.toList ++ l ++ y.toList).toArray = x ++ l.toArray ++ y := by
  apply Array.ext'
  simp
theorem step_of_call {prim : Prim} {rec : Rec} {o : Oper} {a : A} {h h' : Heap} {v : Value} (hN : NamesOK P) (hP : PrimOK P prim) (hbody : ∀ f, prim f ≠ none → ∃ (fn : Func) (c : Code), P.funcs[f]? = some fn ∧ fn.body = some c)
    (hcall : ∀ f args h v h', callF P prim rec f args h = some (v, h') → CallOK P f args h v h') (hyield : ∀ l args h v h', yieldF rec l args h = some (v, h') → YieldOK P l args h v h')
    (e : ocall P prim rec o a h = some (v, h')) : StepOK P o a h v h' := by
  intro R ρ w b K Q H r k
  obtain ⟨dst, op, ty, pos, after, guard⟩ := o
  unfold ocall at e
  simp only at e
  split at e
  next c =>
    obtain ⟨callee, args, ats⟩ := c
    simp only at e
    split at e
    next g =>
      simp only [Option.bind_eq_some_iff] at e
      obtain ⟨u, hu, l, hl, e⟩ := e
      have hvu := r.eval hu
      have hvl := r.evs hl
      split at e
      · next f x y =>
        obtain ⟨x', y', hu', hx, hy⟩ := hvu.func_inv
        have hc := hcall _ _ _ _ _ e ρ w _ H ((hx.toList.append hvl).append hy.toList)
        have hfb : ∃ (fn : Func) (c : Code), P.funcs[f]? = some fn ∧ fn.body = some c := by
          unfold callF at e
          split at e
          · next g' hg => exact hbody f (by rw [hg]; simp)
          · simp only [Option.bind_eq_some_iff] at e
            obtain ⟨fn, h1, c, h2, _⟩ := e
            exact ⟨fn, c, h1, h2⟩
        obtain ⟨fn, c, h1, h2⟩ := hfb
        refine ⟨fun _ _ => trivial, ?_⟩
        rw [Oper.semAt_eq _ _ _ (fun c => by simp)]
        have hrun : (execOp b.eval ⟨dst, .call ⟨.value g, args, ats⟩, ty, pos, after, guard⟩).run P w = .ok (.enter f ((x'.toList ++ args.toList.map b.eval ++ y'.toList).toArray)) w := by
          unfold execOp
          simp only [resolve, hu', Deferred.ofValue, Sem.run_bind, Sem.run_pure, Result.andThen_ok, invoke]
          rw [toArray_append3, map_toArray]
          exact run_callFunc hN h1 h2
        rw [hrun]
        refine ⟨FF_depth R, ?_⟩
        have hc' : CallsIn (FF R) (0 - 1) P f ((x'.toList ++ args.toList.map b.eval ++ y'.toList).toArray) w _ := hc
        refine hc'.mono ?_
        rintro e' w' ⟨ρ', v', rfl, hv, hH, hE⟩
        exact k ρ' v' w' hv hH hE
      · next l' x y =>
        obtain ⟨L, hu', hL⟩ := hvu.yield_inv
        cases hb : (x.isEmpty && y.isEmpty) with
        | false => rw [hb] at e; cases e
        | true =>
          rw [hb] at e
          obtain ⟨fn, tmps, asg, body, hrun, hround⟩ := hyield _ _ _ _ _ e ρ w _ L H hvl hL
          refine ⟨fun _ _ => trivial, ?_⟩
          rw [Oper.semAt_eq _ _ _ (fun c => by simp)]
          have hrun' : (execOp b.eval ⟨dst, .call ⟨.value g, args, ats⟩, ty, pos, after, guard⟩).run P w = .ok (.round L fn tmps asg body) w := by
            unfold execOp
            simp only [resolve, hu', Deferred.ofValue, Sem.run_bind, Sem.run_pure, Result.andThen_ok, invoke]
            rw [← hrun, map_toArray]
            simp
          rw [hrun']
          refine ⟨FF_depth R, ?_⟩
          have hr' : RoundIn (FF R) (0 - 1) P L fn tmps asg body w _ := hround
          refine hr'.mono ?_
          rintro e' w' ⟨ρ', v', rfl, hv, hH, hE⟩
          exact k ρ' v' w' hv hH hE
      · cases e
    all_goals cases e
  all_goals cases e
theorem ops_ok {prim : Prim} {rec : Rec} {ops : Array Oper} (hstep : ∀ o a h v h', ostep P prim rec o a h = some (v, h') → StepOK P o a h v h') : ∀ (l : List Nat) (a : A) (h : Heap) (a' : A) (h' : Heap), runOps P prim rec ops l a h = some (a', h') → OpsOK P ops l a h a' h' := by
  intro l
  induction l with
  | nil =>
    intro a h a' h' e R ρ w b Q H r k
    simp only [runOps, Option.some.injEq, Prod.mk.injEq] at e
    obtain ⟨rfl, rfl⟩ := e
    exact k ρ b w H r (Ext.refl _ _ _)
  | cons i l ih =>
    intro a h a' h' e R ρ w b Q H r k
    rw [wpOpsIn_cons]
    unfold wpOpIn
    simp only [runOps] at e
    cases ho : ops[i]? with
    | none =>
      rw [ho] at e
      exact ih a h a' h' e R ρ w b Q H r k
    | some o =>
      rw [ho] at e
      simp only at e ⊢
      rw [awanted_eq r]
      cases hw : awanted ops a o with
      | true =>
        rw [hw] at e
        simp only [cond_true, Option.bind_eq_some_iff] at e
        obtain ⟨⟨v, h1⟩, hs, a1, hp, e⟩ := e
        simp only [if_true]
        refine hstep o a h v h1 hs R ρ w b _ Q H r ?_
        intro ρ' v' w' hv hH hE
        exact ih a1 h1 a' h' e R ρ' w' _ Q hH ((r.mono hE.le).put hv hp) (fun ρ2 b2 w2 x y z => k ρ2 b2 w2 x y (hE.trans z))
      | false =>
        rw [hw] at e
        simp only [cond_false, Option.bind_eq_some_iff] at e
        obtain ⟨a1, hp, e⟩ := e
        simp only [Bool.false_eq_true, if_false]
        exact ⟨fun _ _ => trivial, ih a1 h a' h' e R ρ w _ Q H (r.put (VR_undef ρ) hp) k⟩
end Go.AM
/- Calls, rounds and loops of the abstract machine are the model's. -/
set_option linter.all false
namespace Go.AM
open Go
variable {P : Program}

/-- A block is given up, and the model's block may turn. -/
theorem HR.drop {ρ : Rho} {h : Heap} {w w' : World} (H : HR ρ h w) {b B base : Nat} (hl : h.get b ≠ none) (e : ρ b = some (B, base)) (hw : ∀ k, k ≠ B → w'.heap[k]? = w.heap[k]?)
    (hs : w'.heap.size = w.heap.size) (ho : w'.os = w.os) (ht : w'.tape = w.tape) (hp : w'.output = w.output) (hz : ∀ off, frz w'.heap[B]? off = frz w.heap[B]? off) : HR ρ (h.put b none) w' ∧ Ext ρ h w ρ (h.put b none) w' := by
  have hb : b < h.next := by
    cases hg : h.get b with
    | none => exact absurd hg hl
    | some y => exact Heap.get_lt hg
  have hlive : ∀ c, (h.put b none).get c ≠ none → h.get c ≠ none := by
    intro c hc
    rw [Heap.get_put _ _ _ _ hb] at hc
    split at hc
    · exact absurd rfl hc
    · exact hc
  refine ⟨⟨?_, ?_, ?_, fun c C bs hc => by rw [hs]; exact H.lt c C bs hc⟩, ⟨Le.refl _, fun c _ _ => hlive c, ?_, by omega, ho, ht, hp, fun c C bs e1 e2 => (by rw [e1] at e2; cases e2), Nat.le_refl _, fun c C bs e1 e2 => (by rw [e1] at e2; cases e2), fun c hc hn => (by rw [Heap.get_put _ _ _ _ hb, if_neg (by intro h1; subst h1; rw [e] at hn; cases hn)]), fun a _ => fro_of hw hz a⟩⟩
  · intro c C bs y hc he
    rw [Heap.get_put _ _ _ _ hb] at hc
    split at hc
    · cases hc
    · next h1 =>
      have hne : C ≠ B := by
        intro h2; subst h2
        exact h1 (H.inj c b _ _ _ (by rw [hc]; simp) hl he e)
      rw [hw C hne]
      exact H.blk c C bs y hc he
  · intro c c' C bs bs' h1 h2 e1 e2
    exact H.inj c c' C bs bs' (hlive c h1) (hlive c' h2) e1 e2
  · exact H.fresh
  · intro C hC hn
    refine hw C ?_
    intro h1; subst h1
    exact hn b base hl e

/-! ### What a function hands back -/
def oneRes (tmps : Array Value) : ResultVar → Sem Value
  | .tmp t => pure (tmps.getD t undef)
  | .cell a t => do loadVar t (← asAddr (tmps.getD a undef))
theorem resL_sound {ρ : Rho} {h : Heap} {w : World} {a : A} {b : Act} (H : HR ρ h w) (r : AR ρ a b) : ∀ (l : List ResultVar) (vs : List Value), resL P a h l = some vs →
    ∃ vs', (l.mapM (oneRes b.tmps)).run P w = .ok vs' w ∧ VRl ρ vs vs' := by
  intro l
  induction l with
  | nil =>
    intro vs e
    simp only [resL, Option.some.injEq] at e
    subst e
    exact ⟨[], by simp, .nil ρ⟩
  | cons x l ih =>
    intro vs e
    cases x with
    | tmp t =>
      simp only [resL, Option.map_eq_some_iff] at e
      obtain ⟨vs1, e1, rfl⟩ := e
      obtain ⟨vs', hr, hv⟩ := ih vs1 e1
      exact ⟨b.tmps.getD t undef :: vs', by simp [List.mapM_cons, oneRes, hr], .cons (r.tmps t) hv⟩
    | cell t ty =>
      simp only [resL, Option.bind_eq_some_iff, Option.map_eq_some_iff] at e
      obtain ⟨v, ev, vs1, e1, rfl⟩ := e
      obtain ⟨vs', hr, hv⟩ := ih vs1 e1
      obtain ⟨v', hl, hvv⟩ := aload_sound (P := P) H (r.tmps t) ev
      have hp : ∃ b' o, (a.tr.get t).getD undef = .pointer (some ⟨b', o, none⟩) := by
        unfold aload at ev
        obtain ⟨⟨b', o⟩, hp, _⟩ := Option.bind_eq_some_iff.1 ev
        exact ⟨b', o, asPtr_some hp⟩
      obtain ⟨b', o, hp⟩ := hp
      have ht := r.tmps t
      rw [hp] at ht
      obtain ⟨B, base, hρ, hx⟩ := ht.ptr_inv
      rw [hx] at hl
      have hl' : (loadVar ty ⟨B, base + o, none⟩).run P w = .ok v' w := by
        simpa [Instr.loadAt, Instr.sureAddr] using hl
      exact ⟨v' :: vs', by simp [List.mapM_cons, oneRes, hr, hx, asAddr, hl'], .cons hvv hv⟩
theorem VRl.oneOf {ρ : Rho} {vs vs' : List Value} (h : VRl ρ vs vs') : VR ρ (oneOf vs) (if h : vs'.toArray.size = 1 then vs'.toArray[0] else .tuple vs'.toArray) := by
  obtain ⟨hl, hv⟩ := h
  match vs, vs' with
  | [], [] => exact VR_undef ρ
  | [x], [y] =>
    obtain ⟨v', e, r⟩ := hv 0 x rfl
    simp at e; subst e
    exact r
  | x :: y :: l, x' :: y' :: l' => 
    have : ¬ ((x' :: y' :: l').toArray.size = 1) := by simp
    rw [dif_neg this]
    exact .tuple' (VRl.toArray ⟨hl, hv⟩)
  | [], _ :: _ => simp at hl
  | _ :: _, [] => simp at hl
  | [_], _ :: _ :: _ => simp at hl
  | _ :: _ :: _, [_] => simp at hl
theorem ares_sound {ρ : Rho} {h : Heap} {w : World} {fn : Func} {a : A} {b : Act} {v : Value} (H : HR ρ h w) (r : AR ρ a b) (e : ares P fn a h = some v) :
    ∃ v', (results fn b.tmps).run P w = .ok v' w ∧ VR ρ v v' := by
  simp only [ares, Option.map_eq_some_iff] at e
  obtain ⟨vs, e, rfl⟩ := e
  obtain ⟨vs', hr, hv⟩ := resL_sound (P := P) H r _ _ e
  refine ⟨_, ?_, hv.oneOf⟩
  unfold results
  change ((fn.results.mapM (oneRes b.tmps)) >>= _).run P w = _
  rw [Array.mapM_eq_mapM_toList]
  simp only [Sem.run_bind, Sem.run_map, hr, Result.andThen_ok, Sem.run_pure]

/-! ### Marks -/
theorem marks_leave {fn : Func} {R : Ending → World → Prop} {tmps : Array Value} : ∀ (ms : List Nat) (h h2 : Heap) (ρ : Rho) (w : World) (ds : List Deferred), takeMarks ms h = some h2 → HR ρ h w → marksR ρ ms ds →
    (∀ w', HR ρ h2 w' → Ext ρ h w ρ h2 w' → ∃ v, (results fn tmps).run P w' = .ok v w' ∧ R (.returned v) w') → LeavesInM (FF none) 0 P fn tmps R ds .returning w := by
  intro ms
  induction ms with
  | nil =>
    intro h h2 ρ w ds e H m k
    simp only [takeMarks, Option.some.injEq] at e
    subst e
    simp only [marksR] at m
    subst m
    exact k w H (Ext.refl _ _ _)
  | cons m ms ih =>
    intro h h2 ρ w ds e H mr k
    simp only [takeMarks] at e
    split at e
    · next hm =>
      obtain ⟨D, rest, rfl, hD, mr⟩ := mr
      have hb := H.blk m D 0 _ hm hD
      obtain ⟨_, hb⟩ := hb
      have hlt := H.lt m D 0 hD
      have hl : h.get m ≠ none := by rw [hm]; simp
      obtain ⟨H1, E1⟩ := H.drop (w' := w.putObj D (.deferred none)) hl hD (fun k hk => World.putObj_heap_other hk) (by simp) rfl rfl rfl (fun off => by rw [World.putObj_heap_same hlt, hb]; rfl)
      refine ⟨by simp, .inl ⟨D, _, rfl, run_takeDeferred hb, ?_⟩⟩
      exact ih _ _ ρ _ rest e H1 mr (fun w' a b => k w' a (E1.trans b))
    · cases e

/-! ### The temporaries that an activation begins with -/
theorem ofList_get (l : List Value) (i : Nat) : (ofList l).get i = l[i]? := by
  have key : ∀ (l : List Value) (k : Nat) (t : Tr Value) (i : Nat), ((l.zipIdx k).foldl (fun t p => t.set p.2 (some p.1)) t).get i = if k ≤ i ∧ i < k + l.length then l[i - k]? else t.get i := by
    intro l
    induction l with
    | nil => intro k t i; simp; omega
    | cons x l ih =>
      intro k t i
      rw [List.zipIdx_cons, List.foldl_cons, ih]
      by_cases h1 : k + 1 ≤ i ∧ i < k + 1 + l.length
      · rw [if_pos h1, if_pos (by simp only [List.length_cons]; omega)]
        obtain ⟨j, rfl⟩ : ∃ j, i = k + 1 + j := ⟨i - (k + 1), by omega⟩
        have e1 : k + 1 + j - (k + 1) = j := by omega
        have e2 : k + 1 + j - k = j + 1 := by omega
        rw [e1, e2]; simp
      · rw [if_neg h1]
        by_cases h2 : i = k
        · subst h2
          rw [if_pos (by simp only [List.length_cons]; omega)]
          simp [Tr.get_set_same]
        · rw [if_neg (by simp only [List.length_cons]; omega)]
          simp [Tr.get_set_ne _ _ h2]
  have := key l 0 Tr.nil i
  simp only [Nat.zero_le, true_and, Nat.zero_add, Nat.sub_zero] at this
  unfold ofList
  rw [this]
  split
  · rfl
  · next h => rw [List.getElem?_eq_none (by omega)]; rfl
theorem getD_list (l : List Value) (i : Nat) : l.toArray.getD i undef = (l[i]?).getD undef := by simp [Array.getD_eq_getD_getElem?]
theorem init_AR {ρ : Rho} {fn : Func} {args args' : List Value} (h : VRl ρ args args') : AR ρ (initA fn args) ⟨args'.toArray ++ Array.replicate (fn.ntmps - args'.toArray.size) undef, []⟩ := by
  refine ⟨by simp [initA, h.1], fun i => ?_, rfl⟩
  simp only [initA, ofList_get, Array.getD_eq_getD_getElem?]
  by_cases hi : i < args.length
  · obtain ⟨v', e, r⟩ := h.2 i args[i] (List.getElem?_eq_getElem hi)
    have hi' : i < args'.length := by rw [← h.1]; exact hi
    rw [Array.getElem?_append_left (by simpa using hi')]
    rw [List.getElem?_eq_getElem hi]
    simp only [List.getElem?_toArray, e, Option.getD_some]
    exact r
  · rw [List.getElem?_eq_none (by omega)]
    have : ((args'.toArray ++ Array.replicate (fn.ntmps - args'.toArray.size) undef)[i]?).getD undef = undef := by
      rw [Array.getElem?_append_right (by simp; rw [← h.1]; omega)]
      rw [Array.getElem?_replicate]
      split <;> rfl
    rw [this]; exact VR_undef ρ

/-! ### A call -/
def RecOK (P : Program) (rec : Rec) : Prop := ∀ ro c a h e a' h', rec ro c a h = some (e, a', h') → CodeOK P ro c a h e a' h'
theorem call_ok {prim : Prim} {rec : Rec} (hP : PrimOK P prim) (hR : RecOK P rec) : ∀ f args h v h', callF P prim rec f args h = some (v, h') → CallOK P f args h v h' := by
  intro f args h v h' e
  unfold callF at e
  split at e
  · next g hg => exact hP f g hg _ _ _ _ e
  · simp only [Option.bind_eq_some_iff] at e
    obtain ⟨fn, hf, c, hb, ⟨x, a, h1⟩, hrec, e⟩ := e
    have fin : (takeMarks a.marks h1).bind (fun h2 => (ares P fn a h2).map (·, h2)) = some (v, h') → (cx x = .normal ∨ cx x = .ret) → CallOK P f args h v h' := by
      intro e hx ρ w args' H hv
      simp only [Option.bind_eq_some_iff, Option.map_eq_some_iff, Prod.mk.injEq] at e
      obtain ⟨h2, hm, v1, hr, rfl, rfl⟩ := e
      refine callsIn_of_wp_marks hf hb trivial ?_
      refine hR _ _ _ _ _ _ _ hrec none ρ w _ _ H (init_AR hv) trivial ?_
      intro ρ' b' w' H' r' E'
      have : LeavesInM (FF none) 0 P fn b'.tmps (fun e w' => ∃ ρ' v', e = .returned v' ∧ VR ρ' v1 v' ∧ HR ρ' h2 w' ∧ Ext ρ h w ρ' h2 w') b'.defers .returning w' := by
        refine marks_leave a.marks h1 h2 ρ' w' b'.defers hm H' r'.marks ?_
        intro w2 H2 E2
        obtain ⟨v', hv', hvv⟩ := ares_sound (P := P) (fn := fn) H2 (b := b') ⟨r'.size, r'.tmps, r'.marks⟩ hr
        exact ⟨v', hv', ρ', v', rfl, hvv, H2, E'.trans E2⟩
      rcases hx with hx | hx <;> rw [hx] <;> exact this
    cases x with
    | normal => exact fin e (.inl rfl)
    | ret => exact fin e (.inr rfl)
    | exit i => cases e
    | goto l => cases e
end Go.AM
/- Rounds of loops over functions, and code as a whole. -/
set_option linter.all false
namespace Go.AM
open Go
variable {P : Program}

/-- A loop's record, and what it may become. -/
theorem loop_at {ρ : Rho} {h : Heap} {w : World} (H : HR ρ h w) {l L : Nat} {st : LoopState} {p : Option Code} {tr : Tr Value} {sz : Nat} {ps : Array Tmp} {asg body : Code} {mk : Nat}
    (hg : h.get l = some (.loop st p tr sz ps asg body mk)) (hρ : ρ l = some (L, 0)) :
    ∃ r : Loop, w.heap[L]? = some (.loop r) ∧ r.state = st ∧ r.pending = p ∧ r.tmps.size = sz ∧ TR ρ tr r.tmps ∧ r.params = ps ∧ r.assign = asg ∧ r.body = body ∧ ρ mk = some (r.defers, 0) ∧
      ∀ st' p', HR ρ (h.put l (some (.loop st' p' tr sz ps asg body mk))) (w.putObj L (.loop { r with state := st', pending := p' })) ∧
        Ext ρ h w ρ (h.put l (some (.loop st' p' tr sz ps asg body mk))) (w.putObj L (.loop { r with state := st', pending := p' })) := by
  obtain ⟨_, r, e, a1, a2, a3, a4, a5, a6, a7, a8⟩ := H.blk l L 0 _ hg hρ
  have hlt := H.lt _ _ _ hρ
  refine ⟨r, e, a1, a2, a3, a4, a5, a6, a7, a8, fun st' p' => ?_⟩
  refine H.upd (by rw [hg]; simp) hρ (fun k hk => World.putObj_heap_other hk) (by simp) rfl rfl rfl ?_ (fun off => by rw [World.putObj_heap_same hlt, e]; rfl)
  rw [World.putObj_heap_same hlt]
  exact ⟨rfl, _, rfl, rfl, rfl, a3, a4, a5, a6, a7, a8⟩

theorem setL_sound {ρ : Rho} : ∀ (l l' : List (Tmp × Value)) (tr tr' : Tr Value) (sz : Nat) (tmps : Array Value), setL tr sz l = some tr' → l.length = l'.length → (∀ (i : Nat) (p : Tmp × Value), l[i]? = some p → ∃ p', l'[i]? = some p' ∧ p.1 = p'.1 ∧ VR ρ p.2 p'.2) →
    TR ρ tr tmps → tmps.size = sz → TR ρ tr' (l'.foldl (fun t p => t.setIfInBounds p.1 p.2) tmps) ∧ (l'.foldl (fun t p => t.setIfInBounds p.1 p.2) tmps).size = sz := by
  intro l
  induction l with
  | nil =>
    intro l' tr tr' sz tmps e hl hv ht hs
    cases l' with
    | nil => simp only [setL, Option.some.injEq] at e; subst e; exact ⟨ht, hs⟩
    | cons _ _ => simp at hl
  | cons p l ih =>
    intro l' tr tr' sz tmps e hl hv ht hs
    cases l' with
    | nil => simp at hl
    | cons p' l' =>
      obtain ⟨t, v⟩ := p
      obtain ⟨t', v'⟩ := p'
      obtain ⟨q, e1, e2, e3⟩ := hv 0 _ rfl
      simp only [List.getElem?_cons_zero, Option.some.injEq] at e1
      subst e1
      simp only at e2 e3
      subst e2
      simp only [setL] at e
      cases hb : Nat.blt t sz with
      | false => rw [hb] at e; cases e
      | true =>
        rw [hb] at e
        simp only [cond_true] at e
        rw [Nat.blt_eq] at hb
        rw [List.foldl_cons]
        refine ih l' _ tr' sz _ e (by simpa using hl) (fun i p hp => by simpa using hv (i + 1) p (by simpa using hp)) ?_ (by simp [hs])
        intro i
        rw [Tr.get_set]
        by_cases hi : i = t
        · subst hi
          have : (tmps.setIfInBounds i v').getD i undef = v' := by simp [Array.getD_eq_getD_getElem?, hs, hb]
          rw [this, if_pos rfl]; exact e3
        · have : (tmps.setIfInBounds t v').getD i undef = tmps.getD i undef := by
            simp [Array.getD_eq_getD_getElem?, Array.getElem?_setIfInBounds_ne (Ne.symm hi)]
          rw [this, if_neg hi]; exact ht i

theorem zip_rel {ρ : Rho} : ∀ (ps : List Tmp) (x x' : List Value), VRl ρ x x' → ps.length = x.length → (ps.zip x).length = (ps.zip x').length ∧
    ∀ (i : Nat) (p : Tmp × Value), (ps.zip x)[i]? = some p → ∃ p', (ps.zip x')[i]? = some p' ∧ p.1 = p'.1 ∧ VR ρ p.2 p'.2 := by
  intro ps x x' h hl
  refine ⟨by simp [h.1], fun i p e => ?_⟩
  rw [List.getElem?_zip_eq_some] at e
  obtain ⟨e1, e2⟩ := e
  obtain ⟨v', e3, r⟩ := h.2 i _ e2
  exact ⟨(p.1, v'), by rw [List.getElem?_zip_eq_some]; exact ⟨e1, e3⟩, rfl, r⟩

theorem yield_ok {rec : Rec} (hR : RecOK P rec) : ∀ l args h v h', yieldF rec l args h = some (v, h') → YieldOK P l args h v h' := by
  intro l args h v h' e ρ w args' L H hv hL
  unfold yieldF at e
  split at e
  next p tr sz ps asg body mk hg =>
    cases hn : Nat.beq args.length ps.size with
    | false => rw [hn] at e; cases e
    | true =>
      rw [hn] at e
      simp only [cond_true, Option.bind_eq_some_iff] at e
      have hn' : args.length = ps.size := Nat.eq_of_beq_eq_true hn
      obtain ⟨tr', hset, ⟨x, a1, h1⟩, hasg, e⟩ := e
      obtain ⟨r, hr, r1, r2, r3, r4, r5, r6, r7, r8, _⟩ := loop_at H hg hL
      have hz := zip_rel ps.toList args args' hv (by simp [hn'])
      obtain ⟨hT, hS⟩ := setL_sound _ _ _ _ _ r.tmps hset hz.1 hz.2 r4 r3
      have hyield := run_yield (P := P) (args := args'.toArray) hr (by simp [r5, ← hv.1, hn'])
      refine ⟨_, _, _, _, hyield, ?_⟩
      refine roundIn_of_wpIn trivial ?_
      have hfold : ((r.params.zip args'.toArray).foldl (fun tmps (t, a) => tmps.setIfInBounds t a) r.tmps) = (ps.toList.zip args').foldl (fun t p => t.setIfInBounds p.1 p.2) r.tmps := by
        rw [← Array.foldl_toList, r5]
        simp
      rw [hfold, r6, r7]
      cases x with
      | normal =>
        simp only at e
        split at e
        next p1 tr1 sz1 ps1 asg1 body1 mk1 hg1 =>
          simp only [Option.bind_eq_some_iff] at e
          obtain ⟨⟨x2, a2, h2⟩, hbody, e⟩ := e
          simp only at e
          split at e
          next st2 p2 tr2 sz2 ps2 asg2 body2 mk2 hg2 =>
            simp only [Option.some.injEq, Prod.mk.injEq] at e
            obtain ⟨rfl, rfl⟩ := e
            refine hR _ _ _ _ _ _ _ hasg (some L) ρ w _ _ H ⟨hS, hT, rfl⟩ hL ?_
            intro ρ1 b1 w1 H1 R1 E1
            obtain ⟨q, hq, q1, q2, q3, q4, q5, q6, q7, q8, hup⟩ := loop_at H1 hg1 (E1.le.m _ _ hL)
            obtain ⟨H1', E1'⟩ := hup .busy q.pending
            rw [q2] at H1' E1'
            refine ⟨_, run_beginRound hq q1, ?_⟩
            have hw : (w1.putObj L (.loop { q with state := .busy, pending := p1 })) = (w1.putObj L (.loop { q with state := .busy })) := by rw [← q2]
            rw [hw] at H1' E1'
            refine hR _ _ _ _ _ _ _ hbody (some L) ρ1 _ _ _ H1' R1 (E1.le.m _ _ hL) ?_
            intro ρ2 b2 w2 H2 R2 E2
            obtain ⟨u, hu, u1, u2, u3, u4, u5, u6, u7, u8, hup2⟩ := loop_at H2 hg2 (E2.le.m _ _ (E1.le.m _ _ hL))
            cases x2 with
            | normal =>
              obtain ⟨H3, E3⟩ := hup2 .ready none
              exact ⟨_, _, run_endRound none hu, ρ2, _, rfl, .fl rfl, H3, E1.trans (E1'.trans (E2.trans E3))⟩
            | ret =>
              obtain ⟨H3, E3⟩ := hup2 .done (some .ret)
              exact ⟨_, _, run_endRound (some .ret) hu, ρ2, _, rfl, .fl rfl, H3, E1.trans (E1'.trans (E2.trans E3))⟩
            | exit i =>
              obtain ⟨H3, E3⟩ := hup2 .done (some (.exit i))
              exact ⟨_, _, run_endRound (some (.exit i)) hu, ρ2, _, rfl, .fl rfl, H3, E1.trans (E1'.trans (E2.trans E3))⟩
            | goto t =>
              obtain ⟨H3, E3⟩ := hup2 .done (some (.goto t))
              exact ⟨_, _, run_endRound (some (.goto t)) hu, ρ2, _, rfl, .fl rfl, H3, E1.trans (E1'.trans (E2.trans E3))⟩
          all_goals cases e
        all_goals cases e
      | _ => cases e
  all_goals cases e
end Go.AM
/- Ranges over functions, and code as a whole. -/
set_option linter.all false
namespace Go.AM
open Go
variable {P : Program}

theorem alloc_old (w : World) (o : Obj) {k : Nat} (hk : k < w.heap.size) : (w.alloc o).heap[k]? = w.heap[k]? := by
  show (w.heap.push o)[k]? = _
  rw [Array.getElem?_push, if_neg (by omega)]
theorem range_ok {prim : Prim} {rec : Rec} (hN : NamesOK P) (hP : PrimOK P prim) (hbody : ∀ f, prim f ≠ none → ∃ (fn : Func) (c : Code), P.funcs[f]? = some fn ∧ fn.body = some c) (hR : RecOK P rec) {ro : Option Nat} {g : Operand} {ps : Array Tmp} {asg body : Code} {a : A} {h : Heap} {x : AX} {a' : A} {h' : Heap}
    (e : rangeF P prim rec ro g ps asg body a h = some (x, a', h')) : CodeOK P ro (.rangeFunc g ps asg body) a h x a' h' := by
  intro R ρ w b Q H r hro k
  unfold rangeF at e
  simp only [Option.bind_eq_some_iff] at e
  obtain ⟨v, hv, e⟩ := e
  have hvv := r.eval hv
  split at e
  next f xs ys =>
    obtain ⟨xs', ys', hu', hx, hy⟩ := hvv.func_inv
    simp only [Option.bind_eq_some_iff] at e
    obtain ⟨⟨mk, hh, ms⟩, henter, e⟩ := e
    simp only at e
    obtain ⟨⟨rv, h2⟩, hcall, e⟩ := e
    simp only at e
    have hfb : ∃ (fn : Func) (c : Code), P.funcs[f]? = some fn ∧ fn.body = some c := by
      unfold callF at hcall
      split at hcall
      · next g' hg => exact hbody f (by rw [hg]; simp)
      · simp only [Option.bind_eq_some_iff] at hcall
        obtain ⟨fn, h1, c, h2, _⟩ := hcall
        exact ⟨fn, c, h1, h2⟩
    obtain ⟨fn0, c0, hf0, hb0⟩ := hfb
    -- the record
    have hent : ∀ fn : FuncId, ∃ (ρ1 : Rho) (w1 : World) (L : Nat) (mark : List Deferred), (Instr.enterLoop fn b.tmps ps asg body R).run P w = .ok (L, mark) w1 ∧
        HR ρ1 (hh.push (.loop .ready none a.tr a.size ps asg body mk)) w1 ∧ Ext ρ h w ρ1 (hh.push (.loop .ready none a.tr a.size ps asg body mk)) w1 ∧ ρ1 hh.next = some (L, 0) ∧ marksR ρ1 ms (mark ++ b.defers) := by
      intro fn
      cases ro with
      | none =>
        cases R with
        | some L => exact absurd hro (by simp [roR])
        | none =>
          simp only [Option.some.injEq, Prod.mk.injEq] at henter
          obtain ⟨rfl, rfl, rfl⟩ := henter
          obtain ⟨H1, E1⟩ := H.new (w' := w.alloc (.deferred (some []))) (x := .mark) (fun k hk => alloc_old _ _ hk) (by simp) rfl rfl rfl 0 ⟨rfl, World.alloc_heap_new w _⟩ (fun off => by rw [World.alloc_heap_new]; rfl)
          have hm1 := updR_same ρ h.next (w.heap.size, 0) (fun k => if k = w.heap.size then 0 else ρ.n k)
          generalize updR ρ h.next (w.heap.size, 0) (fun k => if k = w.heap.size then 0 else ρ.n k) = ρ1 at H1 E1 hm1
          have r1 := r.mono E1.le
          obtain ⟨H2, E2⟩ := H1.new (w' := (w.alloc (.deferred (some []))).alloc (.loop { state := .ready, pending := none, fn, tmps := b.tmps, params := ps, assign := asg, body, defers := w.heap.size })) (x := .loop .ready none a.tr a.size ps asg body h.next)
            (fun k hk => alloc_old _ _ hk) (by simp) rfl rfl rfl 0 ⟨rfl, _, World.alloc_heap_new _ _, rfl, rfl, r1.size, r1.tmps, rfl, rfl, rfl, hm1⟩ (fun off => by rw [World.alloc_heap_new]; rfl)
          have hm2 := updR_same ρ1 (h.push .mark).next ((w.alloc (.deferred (some []))).heap.size, 0) (fun k => if k = (w.alloc (.deferred (some []))).heap.size then 0 else ρ1.n k)
          refine ⟨_, _, _, _, run_enterLoop_outer fn b.tmps ps asg body, H2, E1.trans E2, ?_, ?_⟩
          · rw [hm2]; simp
          · exact ⟨w.heap.size, b.defers, rfl, E2.le.m _ _ hm1, (r1.marks).mono E2.le⟩
      | some l =>
        cases R with
        | none => exact absurd hro (by simp [roR])
        | some L =>
          simp only at henter
          split at henter
          next st p tr sz ps0 asg0 body0 mk0 hg =>
            simp only [Option.some.injEq, Prod.mk.injEq] at henter
            obtain ⟨rfl, rfl, rfl⟩ := henter
            obtain ⟨q, hq, q1, q2, q3, q4, q5, q6, q7, q8, _⟩ := loop_at H hg hro
            obtain ⟨H1, E1⟩ := H.new (w' := w.alloc (.loop { state := .ready, pending := none, fn, tmps := b.tmps, params := ps, assign := asg, body, defers := q.defers })) (x := .loop .ready none a.tr a.size ps asg body mk0)
              (fun k hk => alloc_old _ _ hk) (by simp) rfl rfl rfl 0 ⟨rfl, _, World.alloc_heap_new _ _, rfl, rfl, r.size, r.tmps, rfl, rfl, rfl, q8⟩ (fun off => by rw [World.alloc_heap_new]; rfl)
            refine ⟨_, _, _, _, run_enterLoop_inner hq fn b.tmps ps asg body, H1, E1, updR_same _ _ _ _, ?_⟩
            exact r.marks.mono E1.le
          all_goals cases henter
    refine wpIn_rangeFunc (fun fn _ => ?_)
    obtain ⟨ρ1, w1, L, mark, hrun, H1, E1, hL, hmk⟩ := hent fn
    have hargs : VRl ρ1 (xs.toList ++ [Value.func (.yield hh.next) #[] #[]] ++ ys.toList) (xs'.toList ++ [Value.func (.yield L) #[] #[]] ++ ys'.toList) :=
      ((hx.toList.mono E1.le).append (.cons (.yield hL) (.nil _))).append (hy.toList.mono E1.le)
    have hc := call_ok hP hR _ _ _ _ _ hcall ρ1 w1 _ H1 hargs
    refine ⟨L, mark, w1, { target := .fn (.func f) ys', args := xs' ++ #[.func (.yield L) #[] #[]] }, w1, f, (xs'.toList ++ [Value.func (.yield L) #[] #[]] ++ ys'.toList).toArray, w1, hrun, ?_, fun _ _ => trivial, ?_, FF_depth R, ?_⟩
    · simp only [resolve, rangeCall, hu', Deferred.ofValue, Sem.run_bind, Sem.run_pure, Result.andThen_ok]
      simp [Act.eval]
    · simp only [invoke]
      rw [show xs' ++ #[Value.func (.yield L) #[] #[]] ++ ys' = (xs'.toList ++ [Value.func (.yield L) #[] #[]] ++ ys'.toList).toArray from by rw [toArray_append3]]
      exact run_callFunc hN hf0 hb0
    · have hc' : CallsIn (FF R) (0 - 1) P f ((xs'.toList ++ [Value.func (.yield L) #[] #[]] ++ ys'.toList).toArray) w1 _ := hc
      refine hc'.mono ?_
      rintro e' w2 ⟨ρ2, v2, rfl, hv2, H2, E2⟩
      split at e
      next st p tr2 sz2 ps2 asg2 body2 mk2 hg2 =>
        simp only [Option.bind_eq_some_iff] at e
        obtain ⟨_, hst, e⟩ := e
        have hL2 := E2.le.m _ _ hL
        obtain ⟨q, hq, q1, q2, q3, q4, q5, q6, q7, q8, hup⟩ := loop_at H2 hg2 hL2
        have hnb : q.state ≠ .busy := by
          rw [q1]
          intro h; subst h
          simp at hst
        have hend := run_endLoop (P := P) hq hnb
        have hm2 := (hmk.mono E2.le)
        have r2 : AR ρ2 { a with marks := ms } { b with defers := mark ++ b.defers } := ⟨r.size, r.tmps.mono (E1.le.trans E2.le), hm2⟩
        obtain ⟨H3, E3⟩ := hup .exhausted q.pending
        rw [q2] at H3 E3
        refine ⟨_, _, hend, ?_⟩
        rw [q2]
        cases p with
        | none =>
          simp only [Option.some.injEq, Prod.mk.injEq] at e
          obtain ⟨rfl, rfl, rfl⟩ := e
          exact k ρ2 _ _ H3 r2 (E1.trans (E2.trans E3))
        | some c =>
          simp only at e ⊢
          refine hR _ _ _ _ _ _ _ e R ρ2 _ _ _ H3 r2 (hro.mono (E1.le.trans E2.le)) ?_
          intro ρ3 b3 w3 x y z
          exact k ρ3 b3 w3 x y (E1.trans (E2.trans (E3.trans z)))
      all_goals cases e
  all_goals cases e

/-- Regions whose order is drawn. -/
def DrawnOK (P : Program) (drawn : Draw) : Prop := ∀ rec, RecOK P rec → ∀ ops a h a' h', drawn ops rec a h = some (a', h') → ∀ ro id, CodeOK P ro (.region id ops true) a h .normal a' h'
def LoopOK (P : Program) (rec : Rec) (n : Nat) : Prop := ∀ ro x a h e a' h', rec ro (.loop x) a h = some (e, a', h') → ∀ (R : Option Nat) (ρ : Rho) (w : World) (b : Act) (Q : Exit → Act → World → Prop), HR ρ h w → AR ρ a b → roR ρ ro R →
    (∀ ρ' b' w', HR ρ' h' w' → AR ρ' a' b' → Ext ρ h w ρ' h' w' → Q (cx e) b' w') → Code.roundsIn (FF R) 0 P x Q n b w

theorem step_ok {prim : Prim} {rec : Rec} (hN : NamesOK P) (hP : PrimOK P prim) (hbody : ∀ f, prim f ≠ none → ∃ (fn : Func) (c : Code), P.funcs[f]? = some fn ∧ fn.body = some c) (hR : RecOK P rec) {o : Oper} {a : A} {h : Heap} {v : Value} {h' : Heap}
    (e : ostep P prim rec o a h = some (v, h')) : StepOK P o a h v h' := by
  unfold ostep at e
  split at e
  · next r hr => injection e with e; subst e; exact step_of_op hr
  · exact step_of_call hN hP hbody (call_ok hP hR) (yield_ok hR) e

theorem execF_ok {prim : Prim} {rec : Rec} {drawn : Draw} {n : Nat} (hN : NamesOK P) (hP : PrimOK P prim) (hbody : ∀ f, prim f ≠ none → ∃ (fn : Func) (c : Code), P.funcs[f]? = some fn ∧ fn.body = some c) (hD : DrawnOK P drawn) (hR : RecOK P rec) (hL : LoopOK P rec n) :
    RecOK P (execF P prim rec drawn) ∧ LoopOK P (execF P prim rec drawn) (n + 1) := by
  have hloop : LoopOK P (execF P prim rec drawn) (n + 1) := by
    intro ro x a h e a' h' he R ρ w b Q H r hro k
    simp only [execF, Option.bind_eq_some_iff] at he
    obtain ⟨⟨x1, a1, h1⟩, hx, he⟩ := he
    rw [roundsIn_succ]
    refine hR _ _ _ _ _ _ _ hx R ρ w b _ H r hro ?_
    intro ρ1 b1 w1 H1 r1 E1
    cases x1 with
    | normal =>
      exact hL _ _ _ _ _ _ _ he R ρ1 w1 b1 Q H1 r1 (hro.mono E1.le) (fun ρ' b' w' x y z => k ρ' b' w' x y (E1.trans z))
    | exit i => simp only [Option.some.injEq, Prod.mk.injEq] at he; obtain ⟨rfl, rfl, rfl⟩ := he; exact k _ _ _ H1 r1 E1
    | goto l => simp only [Option.some.injEq, Prod.mk.injEq] at he; obtain ⟨rfl, rfl, rfl⟩ := he; exact k _ _ _ H1 r1 E1
    | ret => simp only [Option.some.injEq, Prod.mk.injEq] at he; obtain ⟨rfl, rfl, rfl⟩ := he; exact k _ _ _ H1 r1 E1
  refine ⟨?_, hloop⟩
  intro ro c a h e a' h' he
  cases c with
  | loop x => intro R ρ w b Q H r hro k; exact wpIn_loop_rounds (n + 1) (hloop ro x a h e a' h' he R ρ w b Q H r hro k)
  | skip => simp only [execF, Option.some.injEq, Prod.mk.injEq] at he; obtain ⟨rfl, rfl, rfl⟩ := he; intro R ρ w b Q H r hro k; exact wpIn_skip (k _ _ _ H r (Ext.refl _ _ _))
  | label l => simp only [execF, Option.some.injEq, Prod.mk.injEq] at he; obtain ⟨rfl, rfl, rfl⟩ := he; intro R ρ w b Q H r hro k; exact wpIn_label (k _ _ _ H r (Ext.refl _ _ _))
  | ret => simp only [execF, Option.some.injEq, Prod.mk.injEq] at he; obtain ⟨rfl, rfl, rfl⟩ := he; intro R ρ w b Q H r hro k; exact wpIn_ret (k _ _ _ H r (Ext.refl _ _ _))
  | exit i => simp only [execF, Option.some.injEq, Prod.mk.injEq] at he; obtain ⟨rfl, rfl, rfl⟩ := he; intro R ρ w b Q H r hro k; exact wpIn_exit (k _ _ _ H r (Ext.refl _ _ _))
  | goto l => simp only [execF, Option.some.injEq, Prod.mk.injEq] at he; obtain ⟨rfl, rfl, rfl⟩ := he; intro R ρ w b Q H r hro k; exact wpIn_goto (k _ _ _ H r (Ext.refl _ _ _))
  | seq x y =>
    simp only [execF, Option.bind_eq_some_iff] at he
    obtain ⟨⟨x1, a1, h1⟩, hx, he⟩ := he
    intro R ρ w b Q H r hro k
    refine wpIn_seq (hR _ _ _ _ _ _ _ hx R ρ w b _ H r hro ?_)
    intro ρ1 b1 w1 H1 r1 E1
    cases x1 with
    | normal => exact hR _ _ _ _ _ _ _ he R ρ1 w1 b1 Q H1 r1 (hro.mono E1.le) (fun ρ' b' w' x y z => k ρ' b' w' x y (E1.trans z))
    | exit i => simp only [Option.some.injEq, Prod.mk.injEq] at he; obtain ⟨rfl, rfl, rfl⟩ := he; exact k _ _ _ H1 r1 E1
    | goto l => simp only [Option.some.injEq, Prod.mk.injEq] at he; obtain ⟨rfl, rfl, rfl⟩ := he; exact k _ _ _ H1 r1 E1
    | ret => simp only [Option.some.injEq, Prod.mk.injEq] at he; obtain ⟨rfl, rfl, rfl⟩ := he; exact k _ _ _ H1 r1 E1
  | cond c x y =>
    simp only [execF, Option.bind_eq_some_iff] at he
    obtain ⟨v, hv, he⟩ := he
    intro R ρ w b Q H r hro k
    have hvv := r.eval hv
    split at he
    next t =>
      have hb := (hvv.eq_of_flat1 rfl)
      refine wpIn_cond (t := t) hb ?_
      cases t with
      | true => exact hR _ _ _ _ _ _ _ he R ρ w b Q H r hro k
      | false => exact hR _ _ _ _ _ _ _ he R ρ w b Q H r hro k
    all_goals cases he
  | block i x =>
    simp only [execF, Option.map_eq_some_iff] at he
    obtain ⟨⟨x1, a1, h1⟩, hx, he⟩ := he
    intro R ρ w b Q H r hro k
    refine wpIn_block (hR _ _ _ _ _ _ _ hx R ρ w b _ H r hro ?_)
    intro ρ1 b1 w1 H1 r1 E1
    cases x1 with
    | exit j =>
      simp only [Prod.mk.injEq] at he
      obtain ⟨rfl, rfl, rfl⟩ := he
      show if j = i then Q .normal b1 w1 else Q (.exit j) b1 w1
      cases hj : Nat.beq j i with
      | true =>
        rw [hj] at k
        rw [if_pos (Nat.eq_of_beq_eq_true hj)]
        exact k _ _ _ H1 r1 E1
      | false =>
        rw [hj] at k
        rw [if_neg (Nat.ne_of_beq_eq_false hj)]
        exact k _ _ _ H1 r1 E1
    | normal => simp only [Prod.mk.injEq] at he; obtain ⟨rfl, rfl, rfl⟩ := he; exact k _ _ _ H1 r1 E1
    | goto l => simp only [Prod.mk.injEq] at he; obtain ⟨rfl, rfl, rfl⟩ := he; exact k _ _ _ H1 r1 E1
    | ret => simp only [Prod.mk.injEq] at he; obtain ⟨rfl, rfl, rfl⟩ := he; exact k _ _ _ H1 r1 E1
  | region id ops d =>
    simp only [execF, Option.map_eq_some_iff] at he
    obtain ⟨⟨a1, h1⟩, hx, he⟩ := he
    simp only [Prod.mk.injEq] at he
    obtain ⟨rfl, rfl, rfl⟩ := he
    cases d with
    | true => exact hD rec hR _ _ _ _ _ hx ro id
    | false =>
      intro R ρ w b Q H r hro k
      exact wpIn_region (ops_ok (fun o a h v h' e => step_ok hN hP hbody hR e) _ _ _ _ _ hx R ρ w b Q H r k)
  | rangeFunc g ps asg body => exact range_ok hN hP hbody hR he
  | _ => simp [execF] at he

theorem exec_ok {prim : Prim} {drawn : Draw} (hN : NamesOK P) (hP : PrimOK P prim) (hbody : ∀ f, prim f ≠ none → ∃ (fn : Func) (c : Code), P.funcs[f]? = some fn ∧ fn.body = some c) (hD : DrawnOK P drawn) : ∀ n, RecOK P (exec P prim drawn n) ∧ LoopOK P (exec P prim drawn n) n := by
  intro n
  induction n with
  | zero => exact ⟨fun _ _ _ _ _ _ _ e => by simp [exec] at e, fun _ _ _ _ _ _ _ e => by simp [exec] at e⟩
  | succ n ih => rw [exec_succ]; exact execF_ok hN hP hbody hD ih.1 ih.2
end Go.AM
/- What an operation of the abstract machine looks at. -/
set_option linter.all false
namespace Go.AM
open Go
variable {P : Program}

theorem aevs_congr {a a' : A} : ∀ {l : List Operand}, (∀ x ∈ l, a.eval x = a'.eval x) → aevs a l = aevs a' l
  | [], _ => rfl
  | x :: l, h => by
    simp only [aevs, h x (by simp), aevs_congr (l := l) (fun y hy => h y (by simp [hy]))]
theorem aparts_congr {a a' : A} : ∀ {l : List (Nat × Operand)}, (∀ p ∈ l, a.eval p.2 = a'.eval p.2) → aparts a l = aparts a' l
  | [], _ => rfl
  | (i, x) :: l, h => by
    simp only [aparts, h (i, x) (by simp), aparts_congr (l := l) (fun y hy => h y (by simp [hy]))]
theorem aevO_congr {a a' : A} {x : Option Operand} (h : ∀ y ∈ x, a.eval y = a'.eval y) : aevO a x = aevO a' x := by
  cases x with
  | none => rfl
  | some x => simp only [aevO, h x (by simp)]
theorem aop_congr {o : Oper} {a a' : A} (h : Heap) (he : ∀ x ∈ o.op.operands, a.eval x = a'.eval x) : aop P o a h = aop P o a' h := by
  obtain ⟨dst, op, ty, pos, after, guard⟩ := o
  simp only at he
  unfold aop
  cases op <;> simp only [Op.operands] at he ⊢
  case move x => rw [he x (by simp)]
  case assign x => rw [he x (by simp)]
  case pick c x y => rw [he c (by simp), he x (by simp), he y (by simp)]
  case box t x => rw [he x (by simp)]
  case build t ps => rw [aparts_congr (fun p hp => he p.2 (by simp; exact ⟨p.1, by simpa using hp⟩))]
  case buildSlice t len ps => rw [aparts_congr (fun p hp => he p.2 (by simp; exact ⟨p.1, by simpa using hp⟩))]
  case load t x => rw [he x (by simp)]
  case store t x y => rw [he x (by simp), he y (by simp)]
  case nilCheck x => rw [he x (by simp)]
  case binOp op t x y z => rw [he x (by simp), he y (by simp)]
  case unOp op t x => rw [he x (by simp)]
  case convert s d x => rw [he x (by simp)]
  case makeInterface t x => rw [he x (by simp)]
  case makeFunc f x y =>
    cases f with
    | func f => simp only; rw [aevs_congr (l := x.toList) (fun z hz => he z (by simp at hz ⊢; exact .inl hz)), aevs_congr (l := y.toList) (fun z hz => he z (by simp at hz ⊢; exact .inr hz))]
    | _ => rfl
  case makeMap t x => cases x <;> rfl
  case makeSlice t x y => rw [he x (by simp), he y (by simp)]
  case slice t x lo hi mx =>
    rw [he x (by simp), aevO_congr (x := lo) (fun y hy => he y (by simp at hy; simp [hy])), aevO_congr (x := hi) (fun y hy => he y (by simp at hy; simp [hy])), aevO_congr (x := mx) (fun y hy => he y (by simp at hy; simp [hy]))]
  case fieldAddr s x f => rw [he x (by simp)]
  case field s x f => rw [he x (by simp)]
  case indexAddr t x i => rw [he x (by simp), he i (by simp)]
  case index t x i => rw [he x (by simp), he i (by simp)]
  case lookup t x i ok => rw [he x (by simp), he i (by simp)]
  case mapUpdate t m k x => rw [he m (by simp), he k (by simp), he x (by simp)]
  case extract x i => rw [he x (by simp)]
  case call c =>
    obtain ⟨callee, args, ats⟩ := c
    simp only [Call.operands] at he ⊢
    cases callee <;> simp only at he ⊢
    rw [aevs_congr (fun z hz => he z (by simp at hz ⊢; exact hz))]
theorem ocall_congr {prim : Prim} {rec : Rec} {o : Oper} {a a' : A} (h : Heap) (he : ∀ x ∈ o.op.operands, a.eval x = a'.eval x) : ocall P prim rec o a h = ocall P prim rec o a' h := by
  obtain ⟨dst, op, ty, pos, after, guard⟩ := o
  simp only at he
  unfold ocall
  cases op <;> simp only [Op.operands] at he ⊢
  case call c =>
    obtain ⟨callee, args, ats⟩ := c
    simp only [Call.operands] at he ⊢
    cases callee <;> simp only at he ⊢
    case value g =>
      rw [he g (by simp), aevs_congr (a := a) (a' := a') (fun z hz => he z (by simp at hz ⊢; exact .inr hz))]
theorem ostep_congr {prim : Prim} {rec : Rec} {o : Oper} {a a' : A} (h : Heap) (he : ∀ x ∈ o.op.operands, a.eval x = a'.eval x) : ostep P prim rec o a h = ostep P prim rec o a' h := by
  unfold ostep
  rw [aop_congr h he, ocall_congr h he]

/-! ### Kinds -/
/-- 0: looks at its operands alone; 1: looks at the heap; 2: makes a block of cells; 3: anything else. -/
def kindOf (o : Oper) : Nat :=
  match o.op with
  | .move _ | .assign _ | .pick .. | .build .. | .nilCheck _ | .binOp .. | .unOp .. | .makeInterface .. | .slice .. | .fieldAddr .. | .field .. | .indexAddr .. | .index .. | .extract .. => 0
  | .convert .. | .load .. | .lookup .. => 1
  | .alloc _ | .box .. | .buildSlice .. => 2
  | .call c => match c.callee with | .builtin .len => 1 | _ => 3
  | _ => 3
theorem map_pair {α : Type} {x : Option α} {h h' : Heap} {v : α} (e : x.map (fun y => (y, h)) = some (v, h')) : h' = h ∧ x = some v := by
  cases x with
  | none => cases e
  | some y => simp at e; exact ⟨e.2.symm, by rw [e.1]⟩
theorem op_pure {o : Oper} {a : A} {h h' : Heap} {v : Value} (k : kindOf o = 0) (e : aop P o a h = some (v, h')) : h' = h ∧ ∀ h2, aop P o a h2 = some (v, h2) := by
  have key : ∃ x : Option Value, ∀ h, aop P o a h = x.map (fun y => (y, h)) := by
    obtain ⟨dst, op, ty, pos, after, guard⟩ := o
    unfold aop
    cases op <;> simp only [kindOf] at k ⊢ <;> first | (cases k; done) | skip
    case move x => exact ⟨_, fun h => rfl⟩
    case assign x => exact ⟨_, fun h => rfl⟩
    case pick c x y =>
      cases a.eval c with
      | none => exact ⟨none, fun h => rfl⟩
      | some u =>
        cases u with
        | bool b => exact ⟨bif b then a.eval x else a.eval y, fun h => rfl⟩
        | _ => exact ⟨none, fun h => rfl⟩
    case build t ps => exact ⟨(aparts a ps.toList).bind fun l => abuild P t l, fun h => by cases aparts a ps.toList <;> rfl⟩
    case nilCheck x => exact ⟨(a.eval x).bind anilCheck, fun h => by cases a.eval x <;> rfl⟩
    case binOp op t x y z => exact ⟨(a.eval x).bind fun v => (a.eval y).bind fun u => abin P op t x y v u, fun h => by cases a.eval x <;> cases a.eval y <;> rfl⟩
    case unOp op t x =>
      refine ⟨(a.eval x).bind fun v => bif flat v then flatRun P (Op.unary op v) else none, fun h => ?_⟩
      cases a.eval x with
      | none => rfl
      | some v => simp only [Option.bind_some]; cases flat v <;> rfl
    case makeInterface t x =>
      refine ⟨(a.eval x).bind fun v => bif isIface P t then none else some (.iface t v), fun h => ?_⟩
      cases a.eval x with
      | none => rfl
      | some v => simp only [Option.bind_some]; cases isIface P t <;> rfl
    case slice t x lo hi mx =>
      refine ⟨(a.eval x).bind fun v => (aevO a lo).bind fun l => (aevO a hi).bind fun k => (aevO a mx).bind fun m => aslice P t v l k m, fun h => ?_⟩
      cases a.eval x <;> cases aevO a lo <;> cases aevO a hi <;> cases aevO a mx <;> rfl
    case fieldAddr s x f => exact ⟨(a.eval x).bind fun v => afieldAddr P s v f, fun h => by cases a.eval x <;> rfl⟩
    case field s x f => exact ⟨(a.eval x).bind fun v => afield P s v f, fun h => by cases a.eval x <;> rfl⟩
    case indexAddr t x i => exact ⟨(a.eval x).bind fun v => (a.eval i).bind fun u => aindexAddr P t v u, fun h => by cases a.eval x <;> cases a.eval i <;> rfl⟩
    case index t x i => exact ⟨(a.eval x).bind fun v => (a.eval i).bind fun u => aindex P t v u, fun h => by cases a.eval x <;> cases a.eval i <;> rfl⟩
    case extract x i => exact ⟨(a.eval x).bind fun v => aextract v i, fun h => by cases a.eval x <;> rfl⟩
    case call c =>
      obtain ⟨callee, args, ats⟩ := c
      exfalso
      revert k
      cases callee <;> simp
      rename_i b
      cases b <;> simp
  obtain ⟨x, hx⟩ := key
  rw [hx] at e
  obtain ⟨e1, e2⟩ := map_pair e
  subst e1
  exact ⟨rfl, fun h2 => by rw [hx, e2]; rfl⟩

/-- What is in the one heap is in the other. -/
def Sub (h h2 : Heap) : Prop := ∀ b x, h.get b = some x → h2.get b = some x
theorem Sub.cs {h h2 : Heap} (s : Sub h h2) {b : Nat} {cs : List Value} (e : h.cs b = some cs) : h2.cs b = some cs := by
  have := s _ _ (Heap.cs_some e)
  unfold Heap.cs
  rw [this]
theorem Sub.rd {h h2 : Heap} (s : Sub h h2) {b : Nat} {cs : List Value} (e : h.rd b = some cs) : h2.rd b = some cs := by
  obtain ⟨x, hg, hx⟩ := Heap.rd_some e
  exact Heap.rd_of (s _ _ hg) hx
theorem op_read {o : Oper} {a : A} {h h' : Heap} {v : Value} (k : kindOf o = 1) (e : aop P o a h = some (v, h')) : h' = h ∧ ∀ h2, Sub h h2 → aop P o a h2 = some (v, h2) := by
  obtain ⟨dst, op, ty, pos, after, guard⟩ := o
  unfold aop at e ⊢
  cases op <;> simp only [kindOf] at k e ⊢ <;> first | (cases k; done) | skip
  case convert s d x =>
    simp only [Option.bind_eq_some_iff] at e
    obtain ⟨u, hu, e⟩ := e
    obtain ⟨rfl, e⟩ := map_pair e
    refine ⟨rfl, fun h2 hs => ?_⟩
    have : aconv P s d u h2 = some v := by
      unfold aconv at e ⊢
      cases hb : bytesType P s d with
      | false => rw [hb] at e; exact e
      | true =>
        rw [hb] at e
        simp only [cond_true] at e ⊢
        split at e
        · exact e
        · simp only [Option.bind_eq_some_iff] at e
          obtain ⟨cs, hc, e⟩ := e
          rw [hs.rd hc]
          simpa [Option.bind_eq_some_iff] using e
        · cases e
    rw [hu]
    simp [this]
  case load t x =>
    simp only [Option.bind_eq_some_iff] at e
    obtain ⟨u, hu, e⟩ := e
    obtain ⟨rfl, e⟩ := map_pair e
    refine ⟨rfl, fun h2 hs => ?_⟩
    have : aload P t u h2 = some v := by
      unfold aload at e ⊢
      simp only [Option.bind_eq_some_iff] at e ⊢
      obtain ⟨p, hp, cs, hc, e⟩ := e
      exact ⟨p, hp, cs, hs.rd hc, e⟩
    rw [hu]
    simp [this]
  case lookup t x i ok =>
    simp only [Option.bind_eq_some_iff] at e
    obtain ⟨u, hu, y, hy, e⟩ := e
    obtain ⟨rfl, e⟩ := map_pair e
    refine ⟨rfl, fun h2 hs => ?_⟩
    have : alookup P t u y ok h2 = some v := by
      unfold alookup at e ⊢
      simp only [Option.bind_eq_some_iff] at e ⊢
      obtain ⟨m, hm, d, hd, e⟩ := e
      refine ⟨m, hm, d, hd, ?_⟩
      cases hf : flat1 y with
      | false => rw [hf] at e; cases e
      | true =>
        rw [hf] at e
        simp only [cond_true, Option.bind_eq_some_iff] at e ⊢
        obtain ⟨es, he, e⟩ := e
        refine ⟨es, ?_, e⟩
        unfold entriesOf at he ⊢
        split at he
        · exact he
        · split at he
          · next hg => rw [hs _ _ hg]; exact he
          · cases he
        · cases he
    rw [hu, hy]
    simp [this]
  case call c =>
    obtain ⟨callee, args, ats⟩ := c
    have hc : callee = .builtin .len := by
      cases callee with
      | builtin b => cases b <;> simp at k ⊢
      | _ => simp at k
    subst hc
    simp only [Option.bind_eq_some_iff, abuiltin] at e ⊢
    obtain ⟨l, hl, e⟩ := e
    split at e
    next x =>
      obtain ⟨rfl, e⟩ := map_pair e
      refine ⟨rfl, fun h2 hs => ⟨_, hl, ?_⟩⟩
      simp only
      have : alen P ats x h2 = some v := by
        unfold alen at e ⊢
        simp only [Option.bind_eq_some_iff] at e ⊢
        obtain ⟨t, ht, e⟩ := e
        refine ⟨t, ht, ?_⟩
        split at e <;> first | exact e | skip
        split at e
        · next hg => rw [hs _ _ hg]; exact e
        · cases e
      rw [this]; rfl
    all_goals cases e

/-- The cells that an operation lays, and the value that leads to them. -/
def allocOf (P : Program) (o : Oper) (a : A) : Option (List Value × (Nat → Value)) :=
  match o.op with
  | .alloc t => (zeroOf P t).bind fun z => bif flat z then some (z.cells.toList, fun b => .pointer (some ⟨b, 0, none⟩)) else none
  | .box t x => (a.eval x).map fun v => (v.cells.toList, fun b => .pointer (some ⟨b, 0, none⟩))
  | .buildSlice t len ps => (aparts a ps.toList).bind fun parts => (elemOfSlice P t).bind fun e => (szOf P e).bind fun sz => (zerosOf P e len).bind fun zs =>
    bif Nat.ble (len * sz) 16777216 then (fillL (fun i => some (i * sz, sz)) zs parts).map fun l => (l, fun b => .slice (some ⟨b, 0, none⟩) len len) else none
  | _ => none
theorem op_alloc {o : Oper} {a : A} {h h' : Heap} {v : Value} (k : kindOf o = 2) (e : aop P o a h = some (v, h')) : ∃ l mk, allocOf P o a = some (l, mk) ∧ v = mk h.next ∧ h' = h.push (.cells l) := by
  obtain ⟨dst, op, ty, pos, after, guard⟩ := o
  unfold aop at e
  unfold allocOf
  cases op <;> simp only [kindOf] at k e ⊢ <;> first | (cases k; done) | skip
  case alloc t =>
    simp only [aalloc, Option.bind_eq_some_iff] at e
    obtain ⟨z, hz, e⟩ := e
    cases hf : flat z with
    | false => rw [hf] at e; cases e
    | true =>
      rw [hf] at e
      simp only [cond_true, anew, Option.some.injEq, Prod.mk.injEq] at e
      obtain ⟨rfl, rfl⟩ := e
      exact ⟨z.cells.toList, fun b => .pointer (some ⟨b, 0, none⟩), by rw [hz]; simp only [Option.bind_some, hf, cond_true], rfl, rfl⟩
  case box t x =>
    simp only [Option.map_eq_some_iff] at e
    obtain ⟨u, hu, e⟩ := e
    simp only [abox, anew, Prod.mk.injEq] at e
    obtain ⟨rfl, rfl⟩ := e
    exact ⟨u.cells.toList, fun b => .pointer (some ⟨b, 0, none⟩), by rw [hu]; rfl, rfl, rfl⟩
  case buildSlice t len ps =>
    simp only [abuildSlice, Option.bind_eq_some_iff] at e
    obtain ⟨parts, hp, el, hu, sz, hsz, zs, hzs, e⟩ := e
    cases hb : Nat.ble (len * sz) 16777216 with
    | false => rw [hb] at e; cases e
    | true =>
      rw [hb] at e
      simp only [cond_true, Option.map_eq_some_iff, Prod.mk.injEq] at e
      obtain ⟨l, hl, rfl, rfl⟩ := e
      exact ⟨l, fun b => .slice (some ⟨b, 0, none⟩) len len, by rw [hp]; simp only [Option.bind_some, hu, hsz, hzs, hb, hl, cond_true, Option.map_some], rfl, rfl⟩
  case call c =>
    obtain ⟨callee, args, ats⟩ := c
    exfalso
    revert k
    cases callee <;> simp
    rename_i b
    cases b <;> simp
theorem allocOf_congr {o : Oper} {a a' : A} (he : ∀ x ∈ o.op.operands, a.eval x = a'.eval x) : allocOf P o a = allocOf P o a' := by
  obtain ⟨dst, op, ty, pos, after, guard⟩ := o
  simp only at he
  unfold allocOf
  cases op <;> simp only [Op.operands] at he ⊢
  case box t x => rw [he x (by simp)]
  case buildSlice t len ps => rw [aparts_congr (fun p hp => he p.2 (by simp; exact ⟨p.1, by simpa using hp⟩))]
theorem alloc_run {ρ : Rho} {w : World} {o : Oper} {a : A} {b : Act} {l : List Value} {mk : Nat → Value} (r : AR ρ a b) (e : allocOf P o a = some (l, mk)) :
    (∀ c, o.op ≠ .defer c) ∧ ∃ (l' : List Value) (t : TypeId) (mk' : Nat → Value), (execOp b.eval o).run P w = .ok (.value (mk' w.heap.size)) (w.alloc (.cells l'.toArray t)) ∧ VRl ρ l l' ∧ ∀ (ρ' : Rho) (B W : Nat), ρ' B = some (W, 0) → VR ρ' (mk B) (mk' W) := by
  obtain ⟨dst, op, ty, pos, after, guard⟩ := o
  unfold allocOf at e
  unfold execOp
  cases op <;> simp only at e ⊢ <;> first | (cases e; done) | skip
  case alloc t =>
    simp only [Option.bind_eq_some_iff] at e
    obtain ⟨z, hz, e⟩ := e
    cases hf : flat z with
    | false => rw [hf] at e; cases e
    | true =>
      rw [hf] at e
      simp only [cond_true, Option.some.injEq, Prod.mk.injEq] at e
      obtain ⟨rfl, rfl⟩ := e
      refine ⟨by simp, _, t, fun W => .pointer (some ⟨W, 0 + 0, none⟩), ?_, (VR_refl_flat (ρ := ρ) hf).cells, fun ρ' B W h => .ptr h⟩
      simp [Instr.alloc, run_zeroValue' hz, newVar, newRow]
  case box t x =>
    simp only [Option.map_eq_some_iff, Prod.mk.injEq] at e
    obtain ⟨u, hu, rfl, rfl⟩ := e
    refine ⟨by simp, _, t, fun W => .pointer (some ⟨W, 0 + 0, none⟩), ?_, (r.eval hu).cells, fun ρ' B W h => .ptr h⟩
    simp [Instr.box, newVar, newRow]
  case buildSlice t len ps =>
    simp only [Option.bind_eq_some_iff] at e
    obtain ⟨parts, hp, el, hu, sz, hsz, zs, hzs, e⟩ := e
    have hu := elemOfSlice_some hu
    obtain ⟨sz', z, hsz', hz, hzc, rfl, hfl, hlen⟩ := zerosOf_some hzs
    rw [hsz] at hsz'; injection hsz' with hsz'; subst hsz'
    cases hb : Nat.ble (len * sz) 16777216 with
    | false => rw [hb] at e; cases e
    | true =>
      rw [hb] at e
      have hle := Nat.le_of_ble_eq_true hb
      simp only [cond_true, Option.map_eq_some_iff, Prod.mk.injEq] at e
      obtain ⟨l, hl, rfl, rfl⟩ := e
      have hp' := r.parts hp
      have hp2 : PRs ρ parts (ps.map fun p => (p.1, b.eval p.2)).toList := by simpa using hp'
      obtain ⟨out', e', rr⟩ := fillL_sound (cells' := (List.replicate len z.cells.toList).flatten.toArray) hp2 (by simpa using VRl_refl_flat (ρ := ρ) hfl) hl
      refine ⟨by simp, _, el, fun W => .slice (some ⟨W, 0 + 0, none⟩) len len, ?_, rr, fun ρ' B W h => .sl h⟩
      have hgt : ¬ (len * sz > 2 ^ 24) := by simp; omega
      simp only [Instr.buildSlice, Sem.run_bind, run_underlying hu, Result.andThen_ok, run_sizeOf' hsz, if_neg hgt]
      by_cases h0 : len * sz = 0
      · rw [if_pos h0]
        simp only [Sem.run_bind, Sem.run_pure, Result.andThen_ok, zeros0 hzc h0, e']
        simp [newRow]
      · rw [if_neg h0]
        simp only [Sem.run_bind, Sem.run_pure, Result.andThen_ok, run_zeroValue' hz, zeros1 hzc, e']
        simp [newRow]
end Go.AM
/- Regions whose order is drawn: the plan, the run, and what the run's trace says. -/
set_option linter.all false
namespace Go.AM
open Go
variable {P : Program}

/-! ### Edges -/
inductive Anc (ops : Array Oper) : Nat → Nat → Prop
  | base {j : Nat} {o : Oper} {e : Edge} : ops[j]? = some o → e ∈ o.after → Region.binds .any e = true → Anc ops e.on j
  | step {i j : Nat} {o : Oper} {e : Edge} : Anc ops i e.on → ops[j]? = some o → e ∈ o.after → Region.binds .any e = true → Anc ops i j
def Cl (ops : Array Oper) (S : Nat → Bool) : Prop := ∀ j o, S j = true → ops[j]? = some o → ∀ e ∈ o.after, Region.binds .any e = true → S e.on = true
theorem Cl.anc {ops : Array Oper} {S : Nat → Bool} (c : Cl ops S) {i j : Nat} (h : Anc ops i j) : S j = true → S i = true := by
  induction h with
  | base ho he hb => exact fun hj => c _ _ hj ho _ he hb
  | step _ ho he hb ih => exact fun hj => ih (c _ _ hj ho _ he hb)
theorem Cl.rdy {ops : Array Oper} {S : Nat → Bool} (c : Cl ops S) {i j : Nat} {o : Oper} (ho : ops[j]? = some o) (hp : ∀ e ∈ o.after, Region.binds .any e = true → S e.on = true) (h : Anc ops i j) : S i = true := by
  cases h with
  | base ho' he hb => rw [ho] at ho'; injection ho' with ho'; subst ho'; exact hp _ he hb
  | step h ho' he hb => rw [ho] at ho'; injection ho' with ho'; subst ho'; exact c.anc h (hp _ he hb)
theorem Anc.trans {ops : Array Oper} {i j k : Nat} (h : Anc ops i j) (g : Anc ops j k) : Anc ops i k := by
  induction g with
  | base ho he hb => exact .step h ho he hb
  | step _ ho he hb ih => exact .step (ih h) ho he hb

def predsOf (o : Oper) : List Nat := (o.after.toList.filter (Region.binds .any)).map (·.on)
theorem mem_predsOf {o : Oper} {i : Nat} : i ∈ predsOf o ↔ ∃ e ∈ o.after, Region.binds .any e = true ∧ e.on = i := by
  unfold predsOf
  simp only [List.mem_map, List.mem_filter, Array.mem_toList_iff]
  exact ⟨fun ⟨e, ⟨a, b⟩, c⟩ => ⟨e, a, b, c⟩, fun ⟨e, a, b, c⟩ => ⟨e, ⟨a, b⟩, c⟩⟩

def maskOf (ms : List Nat) (l : List Nat) : Nat := l.foldl (fun m i => m ||| (1 <<< i ||| ms.getD i 0)) 0
theorem testBit_one_shift (i k : Nat) : Nat.testBit (1 <<< i) k = decide (i = k) := by
  rw [Nat.testBit_shiftLeft]
  by_cases h : i = k
  · subst h; simp
  · by_cases h2 : i < k
    · have : (1 : Nat).testBit (k - i) = false := by
        cases hb : (1 : Nat).testBit (k - i) with
        | false => rfl
        | true => have := Nat.testBit_one_eq_true_iff_self_eq_zero.1 hb; omega
      simp [h, this]
    · have : ¬ i ≤ k := by omega
      simp [this, h]
theorem testBit_maskOf {ms l : List Nat} {k : Nat} : Nat.testBit (maskOf ms l) k = true ↔ ∃ i ∈ l, i = k ∨ Nat.testBit (ms.getD i 0) k = true := by
  have key : ∀ (l : List Nat) (m : Nat), Nat.testBit (l.foldl (fun m i => m ||| (1 <<< i ||| ms.getD i 0)) m) k = true ↔ Nat.testBit m k = true ∨ ∃ i ∈ l, i = k ∨ Nat.testBit (ms.getD i 0) k = true := by
    intro l
    induction l with
    | nil => intro m; simp
    | cons x l ih =>
      intro m
      rw [List.foldl_cons, ih]
      simp only [Nat.testBit_or, Bool.or_eq_true, testBit_one_shift, decide_eq_true_eq, List.mem_cons, exists_eq_or_imp]
      constructor
      · rintro ((h | h) | h)
        · exact .inl h
        · exact .inr (.inl h)
        · exact .inr (.inr h)
      · rintro (h | h | h)
        · exact .inl (.inl h)
        · exact .inl (.inr h)
        · exact .inr h
  unfold maskOf
  rw [key]; simp
def masks (ops : List Oper) : List Nat := ops.foldl (fun ms o => ms ++ [maskOf ms (predsOf o)]) []
theorem masks_go (ops : Array Oper) : ∀ (l pre : List Oper) (ms : List Nat), (∃ r, ops.toList = pre ++ l ++ r) → ms.length = pre.length → (∀ j i, Nat.testBit (ms.getD j 0) i = true → Anc ops i j) →
    ∀ j i, Nat.testBit ((l.foldl (fun ms o => ms ++ [maskOf ms (predsOf o)]) ms).getD j 0) i = true → Anc ops i j := by
  intro l
  induction l with
  | nil => intro pre ms _ _ h; exact h
  | cons o l ih =>
    rintro pre ms ⟨r, hr⟩ h1 h2
    rw [List.foldl_cons]
    refine ih (pre ++ [o]) _ ⟨r, by rw [hr]; simp⟩ (by simp [h1]) ?_
    intro j i h
    by_cases hj : j < pre.length
    · rw [List.getD_eq_getElem?_getD, List.getElem?_append_left (by omega), ← List.getD_eq_getElem?_getD] at h
      exact h2 j i h
    · by_cases hj2 : j = pre.length
      · subst hj2
        rw [List.getD_eq_getElem?_getD, List.getElem?_append_right (by omega), h1] at h
        simp only [Nat.sub_self, List.getElem?_cons_zero, Option.getD_some] at h
        obtain ⟨k, hk, h⟩ := testBit_maskOf.1 h
        obtain ⟨e, he, hb, rfl⟩ := mem_predsOf.1 hk
        have ho : ops[pre.length]? = some o := by
          rw [← Array.getElem?_toList, hr, List.append_assoc, List.getElem?_append_right (Nat.le_refl _)]
          simp
        rcases h with rfl | h
        · exact .base ho he hb
        · exact .step (h2 _ _ h) ho he hb
      · rw [List.getD_eq_getElem?_getD, List.getElem?_eq_none (by simp; omega)] at h
        simp at h
theorem masks_anc {ops : Array Oper} {j i : Nat} (h : Nat.testBit ((masks ops.toList).getD j 0) i = true) : Anc ops i j :=
  masks_go ops ops.toList [] [] ⟨[], by simp⟩ rfl (fun j i h => by simp at h) j i h

/-! ### The plan -/
def ordGo (ops : Array Oper) : List Nat → Nat → Bool
  | [], done => (List.range ops.size).all (Nat.testBit done ·)
  | j :: l, done => (match ops[j]? with | some o => (predsOf o).all (Nat.testBit done ·) | none => false) && !Nat.testBit done j && ordGo ops l (done ||| 1 <<< j)
def pairsOK (ops : Array Oper) (ms : List Nat) : Bool :=
  (List.range ops.size).all fun i => (List.range i).all fun j => Nat.testBit (ms.getD i 0) j || (match ops[i]?, ops[j]? with | some x, some y => x.apart ops y | _, _ => true)
def readyIn (ops : Array Oper) (done : Nat) (j : Nat) : Bool := match ops[j]? with | some o => (predsOf o).all (Nat.testBit done ·) | none => false
def orderGo (ops : Array Oper) : Nat → List Nat → Nat → List Nat
  | 0, _, _ => []
  | n + 1, rem, done =>
    match rem.find? (fun j => readyIn ops done j && (match ops[j]? with | some o => !Nat.beq (kindOf o) 3 | none => false)) with
    | some j => j :: orderGo ops n (rem.filter (fun i => !Nat.beq i j)) (done ||| 1 <<< j)
    | none => match rem.find? (readyIn ops done) with
      | some j => j :: orderGo ops n (rem.filter (fun i => !Nat.beq i j)) (done ||| 1 <<< j)
      | none => []
def orderOf (ops : Array Oper) : List Nat := orderGo ops ops.size (List.range ops.size) 0

/-- What the order of a plan is like. -/
structure OrdOK (ops : Array Oper) (σ : List Nat) : Prop where
  nodup : σ.Nodup
  all : ∀ i, i < ops.size → i ∈ σ
  pred : ∀ σ1 j σ2, σ = σ1 ++ j :: σ2 → ∃ o, ops[j]? = some o ∧ ∀ e ∈ o.after, Region.binds .any e = true → e.on ∈ σ1
theorem ordGo_spec {ops : Array Oper} : ∀ (σ : List Nat) (done : Nat) (pre : List Nat), ordGo ops σ done = true → (∀ i, Nat.testBit done i = true ↔ i ∈ pre) →
    σ.Nodup ∧ (∀ i ∈ σ, i ∉ pre) ∧ (∀ i, i < ops.size → i ∈ pre ∨ i ∈ σ) ∧ ∀ σ1 j σ2, σ = σ1 ++ j :: σ2 → ∃ o, ops[j]? = some o ∧ ∀ e ∈ o.after, Region.binds .any e = true → e.on ∈ pre ∨ e.on ∈ σ1 := by
  intro σ
  induction σ with
  | nil =>
    intro done pre h hd
    simp only [ordGo, List.all_eq_true, List.mem_range] at h
    exact ⟨by simp, by simp, fun i hi => .inl ((hd i).1 (h i hi)), fun σ1 j σ2 e => by simp at e⟩
  | cons j σ ih =>
    intro done pre h hd
    simp only [ordGo, Bool.and_eq_true, Bool.not_eq_true'] at h
    obtain ⟨⟨h1, h2⟩, h3⟩ := h
    have hj : j ∉ pre := fun hm => by rw [(hd j).2 hm] at h2; cases h2
    obtain ⟨a, b, c, d⟩ := ih (done ||| 1 <<< j) (j :: pre) h3 (fun i => by
      rw [Nat.testBit_or, testBit_one_shift, Bool.or_eq_true, hd, decide_eq_true_eq, List.mem_cons]
      constructor
      · rintro (h | h); exact .inr h; exact .inl h.symm
      · rintro (h | h); exact .inr h.symm; exact .inl h)
    refine ⟨List.nodup_cons.2 ⟨fun hm => b j hm (by simp), a⟩, ?_, ?_, ?_⟩
    · intro i hi
      rcases List.mem_cons.1 hi with rfl | hi
      · exact hj
      · exact fun hp => b i hi (by simp [hp])
    · intro i hi
      rcases c i hi with hp | hp
      · rcases List.mem_cons.1 hp with rfl | hp
        · exact .inr (by simp)
        · exact .inl hp
      · exact .inr (by simp [hp])
    · intro σ1 k σ2 e
      cases σ1 with
      | nil =>
        simp only [List.nil_append, List.cons.injEq] at e
        obtain ⟨rfl, rfl⟩ := e
        split at h1
        · next o ho =>
          refine ⟨o, ho, fun e he hb => .inl ?_⟩
          rw [List.all_eq_true] at h1
          exact (hd _).1 (h1 _ (mem_predsOf.2 ⟨e, he, hb, rfl⟩))
        · cases h1
      | cons x σ1 =>
        simp only [List.cons_append, List.cons.injEq] at e
        obtain ⟨rfl, rfl⟩ := e
        obtain ⟨o, ho, hp⟩ := d σ1 k σ2 rfl
        refine ⟨o, ho, fun e he hb => ?_⟩
        rcases hp e he hb with h | h
        · rcases List.mem_cons.1 h with h | h
          · exact .inr (by simp [h])
          · exact .inl h
        · exact .inr (by simp [h])
theorem ordGo_ok {ops : Array Oper} {σ : List Nat} (h : ordGo ops σ 0 = true) : OrdOK ops σ := by
  obtain ⟨a, b, c, d⟩ := ordGo_spec σ 0 [] h (fun i => by simp)
  refine ⟨a, fun i hi => (c i hi).resolve_left (by simp), fun σ1 j σ2 e => ?_⟩
  obtain ⟨o, ho, hp⟩ := d σ1 j σ2 e
  exact ⟨o, ho, fun e he hb => (hp e he hb).resolve_left (by simp)⟩
/-- Two operations that no edges bind are apart. -/
def Rel (ops : Array Oper) : Prop := ∀ i j x y, i ≠ j → ops[i]? = some x → ops[j]? = some y → Anc ops i j ∨ Anc ops j i ∨ (x.apart ops y = true ∧ y.apart ops x = true)
theorem apart_symm {ops : Array Oper} {x y : Oper} (h : x.apart ops y = true) : y.apart ops x = true := by
  obtain ⟨h1, h2, h3⟩ := Oper.apart_spec h
  unfold Oper.apart
  rw [Bool.and_eq_true]
  constructor
  · cases hy : y.dst with
    | none => rfl
    | some d =>
      have a := h3 d hy
      have b : x.dst ≠ some d := fun hx => h2 d hx hy
      simp [a, b]
  · cases hx : x.dst with
    | none => rfl
    | some d => simpa using h1 d hx
theorem pairs_ok {ops : Array Oper} (h : pairsOK ops (masks ops.toList) = true) : Rel ops := by
  have key : ∀ i j x y, j < i → ops[i]? = some x → ops[j]? = some y → Anc ops j i ∨ x.apart ops y = true := by
    intro i j x y hji hx hy
    have hi : i < ops.size := (Array.getElem?_eq_some_iff.1 hx).1
    simp only [pairsOK, List.all_eq_true, List.mem_range, Bool.or_eq_true] at h
    rcases h i hi j hji with h | h
    · exact .inl (masks_anc h)
    · rw [hx, hy] at h; exact .inr h
  intro i j x y hne hx hy
  rcases Nat.lt_or_gt_of_ne hne with hlt | hlt
  · rcases key j i y x hlt hy hx with h | h
    · exact .inl h
    · exact .inr (.inr ⟨apart_symm h, h⟩)
  · rcases key i j x y hlt hx hy with h | h
    · exact .inr (.inl h)
    · exact .inr (.inr ⟨h, apart_symm h⟩)

/-! ### The run -/
structure DS where
  a : A
  h : Heap
  last : Option Nat
  reads : List (Nat × Oper × A × Value)
def okLast (ms : List Nat) (last : Option Nat) (j : Nat) : Bool := match last with | none => true | some e => Nat.testBit (ms.getD j 0) e
def veq1 : Value → Value → Bool
  | .bool a, .bool b => a == b
  | .int k x, .int k' y => decide (k = k') && decide (x = y)
  | .string a, .string b => decide (a = b)
  | .pointer none, .pointer none => true
  | .pointer (some ⟨b, o, none⟩), .pointer (some ⟨b', o', none⟩) => Nat.beq b b' && Nat.beq o o'
  | .slice none l c, .slice none l' c' => Nat.beq l l' && Nat.beq c c'
  | .slice (some ⟨b, o, f⟩) l c, .slice (some ⟨b', o', f'⟩) l' c' => Nat.beq b b' && Nat.beq o o' && decide (f = f') && Nat.beq l l' && Nat.beq c c'
  | .map none, .map none => true
  | .map (some r), .map (some r') => Nat.beq r r'
  | .nilFunc, .nilFunc => true
  | .nilIface, .nilIface => true
  | _, _ => false
def veqL : List Value → List Value → Bool
  | [], [] => true
  | x :: l, y :: r => veq1 x y && veqL l r
  | _, _ => false
def veq : Value → Value → Bool
  | .agg cs, .agg ds => veqL cs.toList ds.toList
  | .tuple cs, .tuple ds => veqL cs.toList ds.toList
  | .func (.func f) x y, .func (.func g) x' y' => Nat.beq f g && veqL x.toList x'.toList && veqL y.toList y'.toList
  | .func (.yield f) x y, .func (.yield g) x' y' => Nat.beq f g && veqL x.toList x'.toList && veqL y.toList y'.toList
  | .iface t v, .iface t' v' => decide (t = t') && veq1 v v'
  | v, v' => veq1 v v'
theorem veq1_sound {v u : Value} (h : veq1 v u = true) : v = u := by
  unfold veq1 at h
  split at h <;> simp_all
theorem veqL_sound : ∀ {l r : List Value}, veqL l r = true → l = r
  | [], [], _ => rfl
  | x :: l, y :: r, h => by
    simp only [veqL, Bool.and_eq_true] at h
    rw [veq1_sound h.1, veqL_sound h.2]
  | [], _ :: _, h => by simp [veqL] at h
  | _ :: _, [], h => by simp [veqL] at h
theorem veq_sound {v u : Value} (h : veq v u = true) : v = u := by
  unfold veq at h
  split at h
  · rw [Array.toList_inj.1 (veqL_sound h)]
  · rw [Array.toList_inj.1 (veqL_sound h)]
  · simp only [Bool.and_eq_true] at h
    rw [Nat.eq_of_beq_eq_true h.1.1, Array.toList_inj.1 (veqL_sound h.1.2), Array.toList_inj.1 (veqL_sound h.2)]
  · simp only [Bool.and_eq_true] at h
    rw [Nat.eq_of_beq_eq_true h.1.1, Array.toList_inj.1 (veqL_sound h.1.2), Array.toList_inj.1 (veqL_sound h.2)]
  · simp only [Bool.and_eq_true, decide_eq_true_eq] at h
    rw [h.1, veq1_sound h.2]
  · exact veq1_sound h
def rereads (P : Program) (h : Heap) (l : List (Nat × Oper × A × Value)) : Bool :=
  l.all fun r => match aop P r.2.1 r.2.2.1 h with | some q => veq q.1 r.2.2.2 | none => false
def dstep (P : Program) (prim : Prim) (rec : Rec) (ops : Array Oper) (ms : List Nat) (j : Nat) (s : DS) : Option DS :=
  (ops[j]?).bind fun o =>
    bif awanted ops s.a o then
      bif Nat.beq (kindOf o) 0 then (aop P o s.a s.h).bind fun q => (s.a.put o.dst q.1).map fun a' => ⟨a', s.h, s.last, s.reads⟩
      else bif okLast ms s.last j then
        bif Nat.beq (kindOf o) 1 then (aop P o s.a s.h).bind fun q => (s.a.put o.dst q.1).map fun a' => ⟨a', s.h, s.last, (j, o, s.a, q.1) :: s.reads⟩
        else bif Nat.beq (kindOf o) 2 then (aop P o s.a s.h).bind fun q => (s.a.put o.dst q.1).map fun a' => ⟨a', q.2, s.last, s.reads⟩
        else (ostep P prim rec o s.a s.h).bind fun q => (s.a.put o.dst q.1).bind fun a' =>
          bif Nat.ble s.h.next q.2.next && rereads P q.2 (s.reads.filter fun r => !Nat.testBit (ms.getD j 0) r.1) then
            some ⟨a', q.2, some j, s.reads.filter fun r => !Nat.testBit (ms.getD j 0) r.1⟩ else none
      else none
    else (s.a.put o.dst undef).map fun a' => ⟨a', s.h, s.last, s.reads⟩
def dloop (P : Program) (prim : Prim) (rec : Rec) (ops : Array Oper) (ms : List Nat) : List Nat → DS → Option DS
  | [], s => some s
  | j :: l, s => (dstep P prim rec ops ms j s).bind (dloop P prim rec ops ms l)
def planOK (ops : Array Oper) : Bool := ordGo ops (orderOf ops) 0 && pairsOK ops (masks ops.toList)
def drawnF (P : Program) (prim : Prim) : Draw := fun ops rec a h =>
  bif planOK ops then (dloop P prim rec ops (masks ops.toList) (orderOf ops) ⟨a, h, none, []⟩).map fun s => (s.a, s.h) else none
end Go.AM
/- The trace of a drawn region's run. -/
set_option linter.all false
namespace Go.AM
open Go
variable {P : Program} {prim : Prim} {rec : Rec} {ops : Array Oper}

structure Stp where
  j : Nat
  o : Oper
  a : A
  h : Heap
  k : Nat
  v : Value
  h' : Heap

def Filt (ops : Array Oper) (j : Nat) (l : List (Nat × Oper × A × Value)) : List (Nat × Oper × A × Value) := l.filter fun r => !Nat.testBit ((masks ops.toList).getD j 0) r.1
def Last (ops : Array Oper) (l : Option Nat) (j : Nat) : Prop := ∀ e, l = some e → Anc ops e j
structure StpOK (P : Program) (prim : Prim) (rec : Rec) (ops : Array Oper) (s : DS) (t : Stp) (s' : DS) : Prop where
  op : ops[t.j]? = some t.o
  a : t.a = s.a
  h : t.h = s.h
  put : s.a.put t.o.dst t.v = some s'.a
  h' : s'.h = t.h'
  next : s.h.next ≤ s'.h.next
  case : (t.k = 4 ∧ awanted ops s.a t.o = false ∧ t.v = undef ∧ t.h' = t.h ∧ s'.last = s.last ∧ s'.reads = s.reads) ∨
    (t.k = 0 ∧ awanted ops s.a t.o = true ∧ (∀ h2, aop P t.o s.a h2 = some (t.v, h2)) ∧ t.h' = t.h ∧ s'.last = s.last ∧ s'.reads = s.reads) ∨
    (t.k = 1 ∧ awanted ops s.a t.o = true ∧ Last ops s.last t.j ∧ kindOf t.o = 1 ∧ aop P t.o s.a s.h = some (t.v, s.h) ∧ t.h' = t.h ∧ s'.last = s.last ∧ s'.reads = (t.j, t.o, s.a, t.v) :: s.reads) ∨
    (t.k = 2 ∧ awanted ops s.a t.o = true ∧ Last ops s.last t.j ∧ (∃ l mk, allocOf P t.o s.a = some (l, mk) ∧ t.v = mk s.h.next ∧ t.h' = s.h.push (.cells l)) ∧ s'.last = s.last ∧ s'.reads = s.reads) ∨
    (t.k = 3 ∧ awanted ops s.a t.o = true ∧ Last ops s.last t.j ∧ ostep P prim rec t.o s.a s.h = some (t.v, t.h') ∧ s'.last = some t.j ∧ s'.reads = Filt ops t.j s.reads ∧ rereads P t.h' (Filt ops t.j s.reads) = true)

inductive Tra (P : Program) (prim : Prim) (rec : Rec) (ops : Array Oper) : DS → List Stp → DS → Prop
  | nil {s : DS} : Tra P prim rec ops s [] s
  | cons {s s' s'' : DS} {t : Stp} {T : List Stp} : StpOK P prim rec ops s t s' → Tra P prim rec ops s' T s'' → Tra P prim rec ops s (t :: T) s''

theorem okLast_last {l : Option Nat} {j : Nat} (h : okLast (masks ops.toList) l j = true) : Last ops l j := by
  intro e he
  subst he
  exact masks_anc h
theorem dstep_ok {j : Nat} {s s' : DS} (e : dstep P prim rec ops (masks ops.toList) j s = some s') : ∃ t, t.j = j ∧ StpOK P prim rec ops s t s' := by
  unfold dstep at e
  obtain ⟨o, ho, e⟩ := Option.bind_eq_some_iff.1 e
  cases hw : awanted ops s.a o with
  | false =>
    rw [hw] at e
    simp only [cond_false, Option.map_eq_some_iff] at e
    obtain ⟨a', hp, rfl⟩ := e
    exact ⟨⟨j, o, s.a, s.h, 4, undef, s.h⟩, rfl, ho, rfl, rfl, hp, rfl, Nat.le_refl _, .inl ⟨rfl, hw, rfl, rfl, rfl, rfl⟩⟩
  | true =>
    rw [hw] at e
    simp only [cond_true] at e
    cases h0 : Nat.beq (kindOf o) 0 with
    | true =>
      rw [h0] at e
      simp only [cond_true, Option.bind_eq_some_iff, Option.map_eq_some_iff] at e
      obtain ⟨⟨v, h'⟩, hop, a', hp, rfl⟩ := e
      obtain ⟨rfl, hall⟩ := op_pure (Nat.eq_of_beq_eq_true h0) hop
      exact ⟨⟨j, o, s.a, s.h, 0, v, s.h⟩, rfl, ho, rfl, rfl, hp, rfl, Nat.le_refl _, .inr (.inl ⟨rfl, hw, hall, rfl, rfl, rfl⟩)⟩
    | false =>
      rw [h0] at e
      simp only [cond_false] at e
      cases hl : okLast (masks ops.toList) s.last j with
      | false => rw [hl] at e; cases e
      | true =>
        rw [hl] at e
        simp only [cond_true] at e
        have hL := okLast_last hl
        cases h1 : Nat.beq (kindOf o) 1 with
        | true =>
          rw [h1] at e
          simp only [cond_true, Option.bind_eq_some_iff, Option.map_eq_some_iff] at e
          obtain ⟨⟨v, h'⟩, hop, a', hp, rfl⟩ := e
          obtain ⟨rfl, hall⟩ := op_read (Nat.eq_of_beq_eq_true h1) hop
          exact ⟨⟨j, o, s.a, s.h, 1, v, s.h⟩, rfl, ho, rfl, rfl, hp, rfl, Nat.le_refl _, .inr (.inr (.inl ⟨rfl, hw, hL, Nat.eq_of_beq_eq_true h1, hop, rfl, rfl, rfl⟩))⟩
        | false =>
          rw [h1] at e
          simp only [cond_false] at e
          cases h2 : Nat.beq (kindOf o) 2 with
          | true =>
            rw [h2] at e
            simp only [cond_true, Option.bind_eq_some_iff, Option.map_eq_some_iff] at e
            obtain ⟨⟨v, h'⟩, hop, a', hp, rfl⟩ := e
            obtain ⟨l, mk, ha, hv, hh⟩ := op_alloc (Nat.eq_of_beq_eq_true h2) hop
            subst hh
            exact ⟨⟨j, o, s.a, s.h, 2, v, s.h.push (.cells l)⟩, rfl, ho, rfl, rfl, hp, rfl, by simp [Heap.push_next], .inr (.inr (.inr (.inl ⟨rfl, hw, hL, ⟨l, mk, ha, hv, rfl⟩, rfl, rfl⟩)))⟩
          | false =>
            rw [h2] at e
            simp only [cond_false, Option.bind_eq_some_iff] at e
            obtain ⟨⟨v, h'⟩, hop, a', hp, e⟩ := e
            simp only at hp e
            cases hc : (Nat.ble s.h.next h'.next && rereads P h' (s.reads.filter fun r => !Nat.testBit ((masks ops.toList).getD j 0) r.1)) with
            | false => rw [hc] at e; cases e
            | true =>
              rw [hc] at e
              simp only [cond_true, Option.some.injEq] at e
              subst e
              rw [Bool.and_eq_true] at hc
              exact ⟨⟨j, o, s.a, s.h, 3, v, h'⟩, rfl, ho, rfl, rfl, hp, rfl, Nat.le_of_ble_eq_true hc.1, .inr (.inr (.inr (.inr ⟨rfl, hw, hL, hop, rfl, rfl, hc.2⟩)))⟩
theorem dloop_ok : ∀ {σ : List Nat} {s s' : DS}, dloop P prim rec ops (masks ops.toList) σ s = some s' → ∃ T : List Stp, T.map (·.j) = σ ∧ Tra P prim rec ops s T s'
  | [], s, s', e => by simp only [dloop, Option.some.injEq] at e; subst e; exact ⟨[], rfl, .nil⟩
  | j :: σ, s, s', e => by
    simp only [dloop, Option.bind_eq_some_iff] at e
    obtain ⟨s1, h1, e⟩ := e
    obtain ⟨t, ht, hs⟩ := dstep_ok h1
    obtain ⟨T, hT, hr⟩ := dloop_ok e
    exact ⟨t :: T, by simp [ht, hT], .cons hs hr⟩

/-! ### Of traces -/
theorem Tra.split : ∀ {T1 : List Stp} {s s' : DS} {T2 : List Stp}, Tra P prim rec ops s (T1 ++ T2) s' → ∃ s1, Tra P prim rec ops s T1 s1 ∧ Tra P prim rec ops s1 T2 s'
  | [], s, s', T2, h => ⟨s, .nil, h⟩
  | t :: T1, s, s', T2, h => by
    cases h with
    | cons hs hr =>
      obtain ⟨s1, h1, h2⟩ := Tra.split hr
      exact ⟨s1, .cons hs h1, h2⟩
theorem Tra.at {T1 : List Stp} {t : Stp} {s s' : DS} {T2 : List Stp} (h : Tra P prim rec ops s (T1 ++ t :: T2) s') : ∃ s1 s2, Tra P prim rec ops s T1 s1 ∧ StpOK P prim rec ops s1 t s2 ∧ Tra P prim rec ops s2 T2 s' := by
  obtain ⟨s1, h1, h2⟩ := h.split
  cases h2 with
  | cons hs hr => exact ⟨s1, _, h1, hs, hr⟩
theorem Tra.next {T : List Stp} {s s' : DS} (h : Tra P prim rec ops s T s') : s.h.next ≤ s'.h.next := by
  induction h with
  | nil => exact Nat.le_refl _
  | cons hs _ ih => exact Nat.le_trans hs.next ih
def upTo (ops : Array Oper) (e0 e : Nat) : Prop := e0 = e ∨ Anc ops e0 e
theorem upTo.trans {e0 e e1 : Nat} (h : upTo ops e0 e) (g : Anc ops e e1) : Anc ops e0 e1 := by
  rcases h with rfl | h
  · exact g
  · exact h.trans g
theorem StpOK.last {s s' : DS} {t : Stp} (h : StpOK P prim rec ops s t s') : s'.last = s.last ∨ (t.k = 3 ∧ s'.last = some t.j ∧ Last ops s.last t.j) := by
  rcases h.case with c | c | c | c | c
  · exact .inl c.2.2.2.2.1
  · exact .inl c.2.2.2.2.1
  · exact .inl c.2.2.2.2.2.2.1
  · exact .inl c.2.2.2.2.1
  · exact .inr ⟨c.1, c.2.2.2.2.1, c.2.2.1⟩
theorem Tra.last {T : List Stp} {s s' : DS} (h : Tra P prim rec ops s T s') : (∀ e0, s.last = some e0 → ∃ e, s'.last = some e ∧ upTo ops e0 e) ∧ ∀ t ∈ T, t.k = 3 → ∃ e, s'.last = some e ∧ upTo ops t.j e := by
  induction h with
  | nil => exact ⟨fun e0 he => ⟨e0, he, .inl rfl⟩, fun t ht => by cases ht⟩
  | @cons s s1 s2 t T hs _ ih =>
    obtain ⟨i1, i2⟩ := ih
    refine ⟨fun e0 he => ?_, fun t' ht' hk => ?_⟩
    · rcases hs.last with h | ⟨_, h, hl⟩
      · exact i1 e0 (by rw [h, he])
      · obtain ⟨e, h1, h2⟩ := i1 t.j h
        refine ⟨e, h1, .inr ?_⟩
        rcases h2 with rfl | h2
        · exact hl e0 he
        · exact (hl e0 he).trans h2
    · rcases List.mem_cons.1 ht' with rfl | ht'
      · rcases hs.case with c | c | c | c | c
        · omega
        · omega
        · omega
        · omega
        · exact i1 _ c.2.2.2.2.1
      · exact i2 t' ht' hk
theorem StpOK.order {s s' : DS} {t : Stp} (h : StpOK P prim rec ops s t s') (hk : t.k = 1 ∨ t.k = 2 ∨ t.k = 3) : Last ops s.last t.j := by
  rcases h.case with c | c | c | c | c
  · omega
  · omega
  · exact c.2.2.1
  · exact c.2.2.1
  · exact c.2.2.1
theorem Tra.before {T1 T2 : List Stp} {t : Stp} {s s' : DS} (h : Tra P prim rec ops s (T1 ++ t :: T2) s') (hk : t.k = 1 ∨ t.k = 2 ∨ t.k = 3) : ∀ t' ∈ T1, t'.k = 3 → Anc ops t'.j t.j := by
  obtain ⟨s1, s2, h1, h2, h3⟩ := h.at
  intro t' ht' hk'
  obtain ⟨e, he, hu⟩ := h1.last.2 t' ht' hk'
  exact hu.trans (h2.order hk e he)
theorem Tra.after {T1 T2 : List Stp} {t : Stp} {s s' : DS} (h : Tra P prim rec ops s (T1 ++ t :: T2) s') (hk : t.k = 3) : ∀ t' ∈ T2, t'.k = 3 → Anc ops t.j t'.j := by
  intro t' ht' hk'
  obtain ⟨U1, U2, rfl⟩ := List.append_of_mem ht'
  have h' : Tra P prim rec ops s ((T1 ++ t :: U1) ++ t' :: U2) s' := by simpa using h
  exact h'.before (.inr (.inr hk')) t (by simp) hk

/-! ### Where the heap is when some of the operations have been done -/
def hAt (S : Nat → Bool) (hend : Heap) : List Stp → Heap
  | [] => hend
  | t :: T => bif Nat.beq t.k 3 && !S t.j then t.h else hAt S hend T
theorem hAt_congr {S S' : Nat → Bool} {hend : Heap} : ∀ {T : List Stp}, (∀ t ∈ T, t.k = 3 → S t.j = S' t.j) → hAt S hend T = hAt S' hend T
  | [], _ => rfl
  | t :: T, h => by
    simp only [hAt]
    rw [hAt_congr (T := T) (fun t' ht' => h t' (by simp [ht']))]
    cases hk : Nat.beq t.k 3 with
    | false => rfl
    | true => rw [h t (by simp) (Nat.eq_of_beq_eq_true hk)]
theorem hAt_skip {S : Nat → Bool} {hend : Heap} {T2 : List Stp} : ∀ {T1 : List Stp}, (∀ t ∈ T1, t.k = 3 → S t.j = true) → hAt S hend (T1 ++ T2) = hAt S hend T2
  | [], _ => rfl
  | t :: T1, h => by
    simp only [List.cons_append, hAt]
    rw [hAt_skip (T1 := T1) (fun t' ht' => h t' (by simp [ht']))]
    cases hk : Nat.beq t.k 3 with
    | false => rfl
    | true => rw [h t (by simp) (Nat.eq_of_beq_eq_true hk)]; rfl

inductive Grown : Heap → Heap → Prop
  | refl {h : Heap} : Grown h h
  | push {h h' : Heap} {l : List Value} : Grown (h.push (.cells l)) h' → Grown h h'
theorem Grown.trans {a b c : Heap} (h : Grown a b) (g : Grown b c) : Grown a c := by
  induction h with
  | refl => exact g
  | push _ ih => exact .push (ih g)
theorem Grown.next {a b : Heap} (h : Grown a b) : a.next ≤ b.next := by
  induction h with
  | refl => exact Nat.le_refl _
  | push _ ih => exact Nat.le_trans (by simp [Heap.push_next]) ih
theorem Grown.get {a b : Heap} (h : Grown a b) : ∀ {c : Nat}, c < a.next → b.get c = a.get c := by
  induction h with
  | refl => exact fun _ => rfl
  | @push h h' l _ ih =>
    intro c hc
    rw [ih (by rw [Heap.push_next]; omega), Heap.get_push, if_neg (by omega)]
theorem Grown.sub {a b : Heap} (h : Grown a b) : Sub a b := fun c x e => by rw [h.get (Heap.get_lt e), e]
theorem HR.grown {ρ : Rho} {a b : Heap} {w : World} (g : Grown a b) : HR ρ a w → HR ρ b w := by
  induction g with
  | refl => exact id
  | @push h h' l _ ih =>
    intro H
    refine ih ⟨?_, ?_, fun c hc => H.fresh c (by rw [Heap.push_next] at hc; omega), H.lt⟩
    · intro c C base x hx e
      rw [Heap.get_push] at hx
      split at hx
      · next h1 => subst h1; rw [H.fresh _ (Nat.le_refl _)] at e; cases e
      · exact H.blk c C base x hx e
    · intro c c' C bs bs' h1 h2 e1 e2
      have hne : ∀ d x, ρ d = some x → d ≠ h.next := fun d x e h1 => by subst h1; rw [H.fresh _ (Nat.le_refl _)] at e; cases e
      rw [Heap.get_push, if_neg (hne _ _ e1)] at h1
      rw [Heap.get_push, if_neg (hne _ _ e2)] at h2
      exact H.inj c c' C bs bs' h1 h2 e1 e2
theorem Ext.grown {ρ0 ρ : Rho} {h0 h h' : Heap} {w0 w : World} (H0 : HR ρ0 h0 w0) (E : Ext ρ0 h0 w0 ρ h w) (g : Grown h h') : Ext ρ0 h0 w0 ρ h' w where
  le := E.le
  km c x e e2 := E.km c x e (by
    have hc : c < h0.next := by
      by_cases hc : c < h0.next
      · exact hc
      · rw [H0.fresh c (by omega)] at e; cases e
    rw [g.get (Nat.lt_of_lt_of_le hc E.next)] at e2
    exact e2)
  frame := E.frame
  size := E.size
  os := E.os
  tape := E.tape
  output := E.output
  new := E.new
  next := Nat.le_trans E.next g.next
  fresh := E.fresh
  ghost c hc e := by rw [g.get (Nat.lt_of_lt_of_le hc E.next), E.ghost c hc e]
  fro := E.fro
theorem StpOK.grown {s s' : DS} {t : Stp} (h : StpOK P prim rec ops s t s') (hk : t.k ≠ 3) : Grown s.h s'.h := by
  have e := h.h'
  have e1 := h.h
  rcases h.case with c | c | c | c | c
  · rw [e, c.2.2.2.1, e1]; exact .refl
  · rw [e, c.2.2.2.1, e1]; exact .refl
  · rw [e, c.2.2.2.2.2.1, e1]; exact .refl
  · obtain ⟨l, mk, _, _, h2⟩ := c.2.2.2.1
    rw [e, h2]; exact .push .refl
  · exact absurd c.1 hk
theorem Tra.seg {T : List Stp} {s s' : DS} {S : Nat → Bool} (h : Tra P prim rec ops s T s') : (∀ t ∈ T, t.k = 3 → S t.j = false) → Grown s.h (hAt S s'.h T) := by
  induction h with
  | nil => exact fun _ => .refl
  | @cons s s1 s2 t T hs _ ih =>
    intro hS
    simp only [hAt]
    by_cases hk : t.k = 3
    · have : (Nat.beq t.k 3 && !S t.j) = true := by rw [hS t (by simp) hk, hk]; rfl
      rw [this, cond_true, hs.h]
      exact .refl
    · have : Nat.beq t.k 3 = false := by
        cases hb : Nat.beq t.k 3 with
        | false => rfl
        | true => exact absurd (Nat.eq_of_beq_eq_true hb) hk
      rw [this, Bool.false_and, cond_false]
      exact (hs.grown hk).trans (ih (fun t' ht' => hS t' (by simp [ht'])))

/-- What has been read is there to be read again. -/
theorem Tra.read {T : List Stp} {s s' : DS} {S : Nat → Bool} {r : Nat × Oper × A × Value} (hk1 : kindOf r.2.1 = 1) (h : Tra P prim rec ops s T s') : r ∈ s.reads → (∀ t ∈ T, t.k = 3 → S t.j = true → ¬ Anc ops r.1 t.j) →
    aop P r.2.1 r.2.2.1 s.h = some (r.2.2.2, s.h) → aop P r.2.1 r.2.2.1 (hAt S s'.h T) = some (r.2.2.2, hAt S s'.h T) := by
  induction h with
  | nil => exact fun _ _ e => e
  | @cons s s1 s2 t T hs _ ih =>
    intro hr hS e
    simp only [hAt]
    by_cases hk : t.k = 3
    · cases hSt : S t.j with
      | false =>
        have : (Nat.beq t.k 3 && !false) = true := by rw [hk]; rfl
        rw [this, cond_true, hs.h]
        exact e
      | true =>
        have : (Nat.beq t.k 3 && !true) = false := by simp
        rw [this, cond_false]
        rcases hs.case with c | c | c | c | c
        · omega
        · omega
        · omega
        · omega
        · have hm : r ∈ Filt ops t.j s.reads := by
            refine List.mem_filter.2 ⟨hr, ?_⟩
            cases hb : Nat.testBit ((masks ops.toList).getD t.j 0) r.1 with
            | false => rfl
            | true => exact absurd (masks_anc hb) (hS t (by simp) hk hSt)
          refine ih (by rw [c.2.2.2.2.2.1]; exact hm) (fun t' ht' => hS t' (by simp [ht'])) ?_
          have hre := List.all_eq_true.1 c.2.2.2.2.2.2 r hm
          rw [hs.h']
          split at hre
          · next q hq =>
            obtain ⟨v, hh⟩ := q
            obtain ⟨rfl, _⟩ := op_read hk1 hq
            have hv : v = r.2.2.2 := veq_sound hre
            rw [hq, hv]
          · cases hre
    · have : Nat.beq t.k 3 = false := by
        cases hb : Nat.beq t.k 3 with
        | false => rfl
        | true => exact absurd (Nat.eq_of_beq_eq_true hb) hk
      rw [this, Bool.false_and, cond_false]
      refine ih ?_ (fun t' ht' => hS t' (by simp [ht'])) ((op_read hk1 e).2 _ (hs.grown hk).sub)
      rcases hs.case with c | c | c | c | c
      · rw [c.2.2.2.2.2]; exact hr
      · rw [c.2.2.2.2.2]; exact hr
      · rw [c.2.2.2.2.2.2.2]; exact List.mem_cons_of_mem _ hr
      · rw [c.2.2.2.2.2]; exact hr
      · exact absurd c.1 hk

/-! ### The temporaries when some of the operations have been done -/
def curG (S : Nat → Bool) (x : Nat) (d : Option Value) (T : List Stp) : Option Value := T.foldl (fun acc t => if S t.j = true ∧ t.o.dst = some x then some t.v else acc) d
def curT (S : Nat → Bool) (tr : Tr Value) (T : List Stp) : Tr Value := T.foldl (fun tr t => if S t.j = true then (match t.o.dst with | none => tr | some x => tr.set x (some t.v)) else tr) tr
theorem curT_get {S : Nat → Bool} {x : Nat} : ∀ (T : List Stp) (tr : Tr Value), (curT S tr T).get x = curG S x (tr.get x) T
  | [], tr => rfl
  | t :: T, tr => by
    unfold curT curG
    rw [List.foldl_cons, List.foldl_cons]
    have := curT_get (S := S) (x := x) T (if S t.j = true then (match t.o.dst with | none => tr | some x => tr.set x (some t.v)) else tr)
    unfold curT curG at this
    rw [this]
    congr 1
    by_cases hS : S t.j = true
    · rw [if_pos hS]
      cases hd : t.o.dst with
      | none => simp
      | some y =>
        simp only [Tr.get_set]
        by_cases hy : x = y
        · subst hy; simp [hS]
        · have : ¬ (some y = some x) := by simp; exact fun h => hy h.symm
          simp [hy, this]
    · simp [hS]
theorem curG_congr {S S' : Nat → Bool} {x : Nat} : ∀ {T : List Stp} {d : Option Value}, (∀ t ∈ T, t.o.dst = some x → S t.j = S' t.j) → curG S x d T = curG S' x d T
  | [], _, _ => rfl
  | t :: T, d, h => by
    unfold curG
    rw [List.foldl_cons, List.foldl_cons]
    have e : (if S t.j = true ∧ t.o.dst = some x then some t.v else d) = (if S' t.j = true ∧ t.o.dst = some x then some t.v else d) := by
      by_cases hd : t.o.dst = some x
      · rw [h t (by simp) hd]
      · simp [hd]
    rw [e]
    exact curG_congr (T := T) (fun t' ht' => h t' (by simp [ht']))
theorem curG_append {S : Nat → Bool} {x : Nat} {d : Option Value} {T1 T2 : List Stp} : curG S x d (T1 ++ T2) = curG S x (curG S x d T1) T2 := by simp [curG, List.foldl_append]
theorem curG_none {S : Nat → Bool} {x : Nat} : ∀ {T : List Stp} {d : Option Value}, (∀ t ∈ T, t.o.dst = some x → S t.j = false) → curG S x d T = d
  | [], _, _ => rfl
  | t :: T, d, h => by
    unfold curG
    rw [List.foldl_cons]
    have e : (if S t.j = true ∧ t.o.dst = some x then some t.v else d) = d := by
      by_cases hd : t.o.dst = some x
      · rw [h t (by simp) hd]; simp
      · simp [hd]
    rw [e]
    exact curG_none (T := T) (fun t' ht' => h t' (by simp [ht']))
theorem put_get {a a' : A} {d : Option Tmp} {v : Value} (h : a.put d v = some a') (x : Nat) : a'.size = a.size ∧ a'.marks = a.marks ∧ a'.tr.get x = if d = some x then some v else a.tr.get x := by
  cases d with
  | none => simp only [A.put_eq, Option.some.injEq] at h; subst h; simp
  | some y =>
    simp only [A.put_eq] at h
    cases hy : Nat.blt y a.size with
    | false => rw [hy] at h; cases h
    | true =>
      rw [hy] at h
      simp only [cond_true, Option.some.injEq] at h
      subst h
      refine ⟨rfl, rfl, ?_⟩
      simp only [Tr.get_set, Option.some.injEq]
      by_cases hxy : x = y
      · subst hxy; simp
      · rw [if_neg hxy, if_neg (fun h => hxy h.symm)]
theorem Tra.tmps {T : List Stp} {s s' : DS} (h : Tra P prim rec ops s T s') : s'.a.size = s.a.size ∧ s'.a.marks = s.a.marks ∧ ∀ x, s'.a.tr.get x = curG (fun _ => true) x (s.a.tr.get x) T := by
  induction h with
  | nil => exact ⟨rfl, rfl, fun _ => rfl⟩
  | @cons s s1 s2 t T hs _ ih =>
    obtain ⟨i1, i2, i3⟩ := ih
    refine ⟨by rw [i1, (put_get hs.put 0).1], by rw [i2, (put_get hs.put 0).2.1], fun x => ?_⟩
    rw [i3, (put_get hs.put x).2.2]
    unfold curG
    rw [List.foldl_cons]
    simp
end Go.AM
/- Regions whose order is drawn: whatever the order, the run is that of the plan. -/
set_option linter.all false
namespace Go.AM
open Go
variable {P : Program} {prim : Prim} {rec : Rec} {ops : Array Oper}

theorem AR.of_get {ρ : Rho} {a a' : A} {b : Act} (r : AR ρ a b) (h1 : a'.size = a.size) (h2 : a'.marks = a.marks) (h3 : ∀ x, a'.tr.get x = a.tr.get x) : AR ρ a' b :=
  ⟨by rw [r.size, h1], fun x => by rw [h3]; exact r.tmps x, by rw [h2]; exact r.marks⟩
theorem Tra.hAt_next {T : List Stp} {s s' : DS} {S : Nat → Bool} (h : Tra P prim rec ops s T s') : s.h.next ≤ (hAt S s'.h T).next := by
  induction h with
  | nil => exact Nat.le_refl _
  | @cons s s1 s2 t T hs _ ih =>
    simp only [hAt]
    cases (Nat.beq t.k 3 && !S t.j) with
    | true => rw [cond_true, hs.h]; exact Nat.le_refl _
    | false => rw [cond_false]; exact Nat.le_trans hs.next ih
theorem Tra.mem_next {T : List Stp} {s s' : DS} (h : Tra P prim rec ops s T s') : ∀ t ∈ T, s.h.next ≤ t.h.next ∧ t.h.next ≤ s'.h.next := by
  induction h with
  | nil => exact fun t ht => by cases ht
  | @cons s s1 s2 t T hs hr ih =>
    intro t' ht'
    rcases List.mem_cons.1 ht' with rfl | ht'
    · rw [hs.h]; exact ⟨Nat.le_refl _, Nat.le_trans hs.next hr.next⟩
    · exact ⟨Nat.le_trans hs.next (ih t' ht').1, (ih t' ht').2⟩
theorem StpOK.alloc {s s' : DS} {t : Stp} (h : StpOK P prim rec ops s t s') (hk : t.k = 2) : ∃ l mk, allocOf P t.o t.a = some (l, mk) ∧ t.v = mk t.h.next ∧ t.h' = t.h.push (.cells l) := by
  have e := h.h
  have e1 := h.a
  rcases h.case with c | c | c | c | c
  · omega
  · omega
  · omega
  · obtain ⟨l, mk, a1, a2, a3⟩ := c.2.2.2.1
    exact ⟨l, mk, by rw [e1]; exact a1, by rw [e]; exact a2, by rw [e]; exact a3⟩
  · omega
theorem Tra.alloc_next {T : List Stp} {s s' : DS} (h : Tra P prim rec ops s T s') : ∀ t ∈ T, t.k = 2 → t.h.next < s'.h.next := by
  intro t ht hk
  obtain ⟨T1, T2, rfl⟩ := List.append_of_mem ht
  obtain ⟨s1, s2, h1, h2, h3⟩ := h.at
  obtain ⟨l, mk, _, _, e⟩ := h2.alloc hk
  have := h3.next
  rw [h2.h', e, Heap.push_next] at this
  omega
theorem Tra.hAt_le {s' : DS} {S : Nat → Bool} {t : Stp} {T2 : List Stp} (hk : t.k = 3) (hS : S t.j = false) : ∀ {T1 : List Stp} {s : DS}, Tra P prim rec ops s (T1 ++ t :: T2) s' → (hAt S s'.h (T1 ++ t :: T2)).next ≤ t.h.next
  | [], s, h => by
    have : (Nat.beq t.k 3 && !S t.j) = true := by rw [hS, hk]; rfl
    simp only [List.nil_append, hAt, this, cond_true]
    exact Nat.le_refl _
  | y :: T1, s, h => by
    cases h with
    | cons hs hr =>
      simp only [List.cons_append, hAt]
      cases (Nat.beq y.k 3 && !S y.j) with
      | true =>
        rw [cond_true, hs.h]
        exact Nat.le_trans hs.next (hr.mem_next t (by simp)).1
      | false => rw [cond_false]; exact Tra.hAt_le hk hS hr
theorem Tra.fresh_block {T : List Stp} {s s' : DS} {S : Nat → Bool} (h : Tra P prim rec ops s T s') (hS : ∀ t ∈ T, t.k = 3 → S t.j = false) {u : Stp} (hu : u ∈ T) (hk : u.k = 2) (hn : u.h.next < (hAt S s'.h T).next) :
    ∃ l mk, allocOf P u.o u.a = some (l, mk) ∧ u.v = mk u.h.next ∧ (hAt S s'.h T).get u.h.next = some (.cells l) := by
  obtain ⟨V1, V2, rfl⟩ := List.append_of_mem hu
  obtain ⟨sa, sb, h1, h2, h3⟩ := h.at
  have hno : ∀ t ∈ V1, t.k = 3 → False := by
    intro t ht hkt
    obtain ⟨X1, X2, rfl⟩ := List.append_of_mem ht
    have h' : Tra P prim rec ops s (X1 ++ t :: (X2 ++ u :: V2)) s' := by simpa using h
    have hle := Tra.hAt_le (S := S) hkt (hS t (by simp) hkt) h'
    have hx : X1 ++ t :: (X2 ++ u :: V2) = X1 ++ t :: X2 ++ u :: V2 := by simp
    rw [hx] at hle
    obtain ⟨_, _, _, _, h5⟩ := h'.at
    have hg : t.h.next ≤ u.h.next := by
      obtain ⟨y1, y2, g1, g2, g3⟩ := h'.at
      have a := g2.next
      have b := (g3.mem_next u (by simp)).1
      rw [g2.h]
      omega
    omega
  obtain ⟨l, mk, a1, a2, a3⟩ := h2.alloc hk
  refine ⟨l, mk, a1, a2, ?_⟩
  rw [hAt_skip (T1 := V1) (fun t ht hkt => (hno t ht hkt).elim)]
  have hk3 : Nat.beq u.k 3 = false := by rw [hk]; rfl
  simp only [hAt, hk3, Bool.false_and, cond_false]
  have hg := h3.seg (S := S) (fun t ht hkt => hS t (by simp [ht]) hkt)
  rw [hg.get (by rw [h2.h', a3, Heap.push_next]; omega), h2.h', a3, Heap.get_push, if_pos rfl]

/-! ### The order of the plan -/
section order
variable {T : List Stp} (hσ : OrdOK ops (T.map (·.j)))
theorem ord_anc (hσ : OrdOK ops (T.map (·.j))) {i j : Nat} (h : Anc ops i j) : ∀ T1 t T2, T = T1 ++ t :: T2 → t.j = j → ∃ t' ∈ T1, t'.j = i := by
  induction h with
  | @base j o e ho he hb =>
    intro T1 t T2 hT hj
    obtain ⟨o', ho', hp⟩ := hσ.pred (T1.map (·.j)) t.j (T2.map (·.j)) (by rw [hT]; simp)
    rw [hj, ho] at ho'; injection ho' with ho'; subst ho'
    obtain ⟨t', ht', e'⟩ := List.mem_map.1 (hp e he hb)
    exact ⟨t', ht', e'⟩
  | @step i j o e h ho he hb ih =>
    intro T1 t T2 hT hj
    obtain ⟨o', ho', hp⟩ := hσ.pred (T1.map (·.j)) t.j (T2.map (·.j)) (by rw [hT]; simp)
    rw [hj, ho] at ho'; injection ho' with ho'; subst ho'
    obtain ⟨t1, ht1, e1⟩ := List.mem_map.1 (hp e he hb)
    obtain ⟨V1, V2, rfl⟩ := List.append_of_mem ht1
    obtain ⟨t', ht', e'⟩ := ih V1 t1 (V2 ++ t :: T2) (by rw [hT]; simp) e1
    exact ⟨t', by simp [ht'], e'⟩
theorem ord_ne (hσ : OrdOK ops (T.map (·.j))) {T1 T2 : List Stp} {t : Stp} (hT : T = T1 ++ t :: T2) : (∀ t' ∈ T1, t'.j ≠ t.j) ∧ (∀ t' ∈ T2, t'.j ≠ t.j) ∧ ∀ t' ∈ T1, ∀ u ∈ T2, t'.j ≠ u.j := by
  have hn := hσ.nodup
  rw [hT, List.map_append, List.map_cons, List.nodup_append] at hn
  obtain ⟨n1, n2, n3⟩ := hn
  rw [List.nodup_cons] at n2
  refine ⟨fun t' ht' => n3 _ (List.mem_map.2 ⟨t', ht', rfl⟩) _ (by simp), fun t' ht' e => n2.1 (List.mem_map.2 ⟨t', ht', e⟩), fun t' ht' u hu => n3 _ (List.mem_map.2 ⟨t', ht', rfl⟩) _ (List.mem_cons_of_mem _ (List.mem_map.2 ⟨u, hu, rfl⟩))⟩
theorem ord_after (hσ : OrdOK ops (T.map (·.j))) {T1 T2 : List Stp} {t t' : Stp} (hT : T = T1 ++ t :: T2) (ht' : t' ∈ T2) : ¬ Anc ops t'.j t.j := by
  intro h
  obtain ⟨u, hu, e⟩ := ord_anc hσ h T1 t T2 hT rfl
  exact (ord_ne hσ hT).2.2 u hu t' ht' e
theorem ord_before (hσ : OrdOK ops (T.map (·.j))) {T1 T2 : List Stp} {t t' : Stp} (hT : T = T1 ++ t :: T2) (ht' : t' ∈ T1) : ¬ Anc ops t.j t'.j := by
  intro h
  obtain ⟨V1, V2, rfl⟩ := List.append_of_mem ht'
  obtain ⟨u, hu, e⟩ := ord_anc hσ h V1 t' (V2 ++ t :: T2) (by rw [hT]; simp) rfl
  exact (ord_ne hσ hT).1 u (by simp [hu]) e
end order
theorem Tra.op {T : List Stp} {s s' : DS} (h : Tra P prim rec ops s T s') : ∀ t ∈ T, ops[t.j]? = some t.o := by
  induction h with
  | nil => exact fun t ht => by cases ht
  | cons hs _ ih =>
    intro t' ht'
    rcases List.mem_cons.1 ht' with rfl | ht'
    · exact hs.op
    · exact ih t' ht'
/-- An operation that writes what the other looks at, or writes: an edge leads from the one to the other. -/
theorem rel_looks (hrel : Rel ops) {t t' : Stp} (h : ops[t.j]? = some t.o) (h' : ops[t'.j]? = some t'.o) (hne : t'.j ≠ t.j) {x : Nat} (hd : t'.o.dst = some x) (hx : x ∈ t.o.looksAt ops ∨ t.o.dst = some x) : Anc ops t'.j t.j ∨ Anc ops t.j t'.j := by
  rcases hrel _ _ _ _ hne h' h with a | a | ⟨a, _⟩
  · exact .inl a
  · exact .inr a
  · obtain ⟨b1, b2, _⟩ := Oper.apart_spec a
    rcases hx with hx | hx
    · exact absurd hx (b1 x hd)
    · exact absurd hx (b2 x hd)

/-! ### The invariant -/
def lst (listed : Array Bool) (j : Nat) : Bool := listed.getD j false
theorem lst_set {listed : Array Bool} {j i : Nat} (h : j < listed.size) : lst (listed.setIfInBounds j true) i = if i = j then true else lst listed i := by
  unfold lst
  by_cases hi : i = j
  · subst hi; simp [Array.getD_eq_getD_getElem?, h]
  · simp [Array.getD_eq_getD_getElem?, Array.getElem?_setIfInBounds_ne (Ne.symm hi), hi]
structure Inv (P : Program) (ops : Array Oper) (T : List Stp) (hend : Heap) (a0 : A) (ρ0 : Rho) (h0 : Heap) (w0 : World) (S : Nat → Bool) (ρ : Rho) (w : World) (b : Act) : Prop where
  cl : Cl ops S
  hr : HR ρ (hAt S hend T) w
  ar : AR ρ ⟨curT S a0.tr T, a0.size, a0.marks⟩ b
  ext : Ext ρ0 h0 w0 ρ (hAt S hend T) w
  gi : ∀ t ∈ T, t.k = 2 → S t.j = false → ρ t.h.next = none ∧ (t.h.next < (hAt S hend T).next → ∃ l mk, allocOf P t.o t.a = some (l, mk) ∧ t.v = mk t.h.next ∧ (hAt S hend T).get t.h.next = some (.cells l))

section step
variable {T T1 T2 : List Stp} {t : Stp} {s0 sN : DS} {S S' : Nat → Bool} {ρ0 ρ : Rho} {w0 w : World} {b : Act}

/-- What an operation that is due looks at is as it was in the plan's run. -/
theorem agree (hrel : Rel ops) (hT : Tra P prim rec ops s0 T sN) (hσ : OrdOK ops (T.map (·.j))) (e : T = T1 ++ t :: T2) (cl : Cl ops S) (hS : S t.j = false) (hp : ∀ e ∈ t.o.after, Region.binds .any e = true → S e.on = true) {x : Nat} (hx : x ∈ t.o.looksAt ops) :
    (curT S s0.a.tr T).get x = t.a.tr.get x := by
  subst e
  obtain ⟨s1, s2, h1, h2, h3⟩ := hT.at
  obtain ⟨n1, n2, n3⟩ := ord_ne hσ rfl
  rw [h2.a, (h1.tmps).2.2, curT_get, curG_append]
  have hin : ∀ t' ∈ T1, t'.o.dst = some x → S t'.j = true := by
    intro t' ht' hd
    rcases rel_looks hrel h2.op (h1.op t' ht') (n1 t' ht') hd (.inl hx) with a | a
    · exact cl.rdy h2.op hp a
    · exact absurd a (ord_before hσ rfl ht')
  have hout : ∀ t' ∈ t :: T2, t'.o.dst = some x → S t'.j = false := by
    intro t' ht' hd
    rcases List.mem_cons.1 ht' with rfl | ht'
    · exact hS
    · rcases rel_looks hrel h2.op (h3.op t' ht') (n2 t' ht') hd (.inl hx) with a | a
      · exact absurd a (ord_after hσ rfl ht')
      · cases hs : S t'.j with
        | false => rfl
        | true => rw [cl.anc a hs] at hS; cases hS
  rw [curG_none hout]
  exact curG_congr (fun t' ht' hd => hin t' ht' hd)
theorem agree_eval {a a' : A} {o : Oper} (h : ∀ x ∈ o.looksAt ops, a.tr.get x = a'.tr.get x) : (∀ y ∈ o.op.operands, a.eval y = a'.eval y) ∧ awanted ops a o = awanted ops a' o := by
  refine ⟨fun y hy => ?_, ?_⟩
  · cases y with
    | tmp x =>
      have : x ∈ o.looksAt ops := List.mem_append_left _ (List.mem_filterMap.2 ⟨.tmp x, by simpa using hy, rfl⟩)
      simp only [A.eval, h x this]
    | _ => rfl
  · unfold awanted
    cases hg : o.guard with
    | none => rfl
    | some q =>
      obtain ⟨j, want⟩ := q
      simp only
      have : ayielded ops a j = ayielded ops a' j := by
        unfold ayielded
        cases hd : (ops[j]?).bind (·.dst) with
        | none => rfl
        | some x =>
          have : x ∈ o.looksAt ops := List.mem_append_right _ (by rw [hg]; simp [hd])
          simp only [Option.bind_some, h x this]
      rw [this]
/-- The temporaries behind an operation. -/
theorem cur_put (hrel : Rel ops) (hT : Tra P prim rec ops s0 T sN) (hσ : OrdOK ops (T.map (·.j))) (e : T = T1 ++ t :: T2) (cl : Cl ops S) (hS : S t.j = false) (hp : ∀ e ∈ t.o.after, Region.binds .any e = true → S e.on = true)
    (hS' : ∀ i, S' i = if i = t.j then true else S i) (tr : Tr Value) (x : Nat) : (curT S' tr T).get x = if t.o.dst = some x then some t.v else (curT S tr T).get x := by
  subst e
  obtain ⟨s1, s2, h1, h2, h3⟩ := hT.at
  obtain ⟨n1, n2, n3⟩ := ord_ne hσ rfl
  rw [curT_get, curT_get]
  by_cases hd : t.o.dst = some x
  · rw [if_pos hd, curG_append]
    unfold curG
    rw [List.foldl_cons]
    have : S' t.j = true ∧ t.o.dst = some x := ⟨by rw [hS', if_pos rfl], hd⟩
    rw [if_pos this]
    refine curG_none (fun t' ht' hd' => ?_)
    rw [hS', if_neg (n2 t' ht')]
    rcases rel_looks hrel h2.op (h3.op t' ht') (n2 t' ht') hd' (.inr hd) with a | a
    · exact absurd a (ord_after hσ rfl ht')
    · cases hs : S t'.j with
      | false => rfl
      | true => rw [cl.anc a hs] at hS; cases hS
  · rw [if_neg hd]
    refine curG_congr (fun t' ht' hd' => ?_)
    rw [hS']
    by_cases hj : t'.j = t.j
    · exfalso
      have a := hT.op t' ht'
      rw [hj, h2.op] at a; injection a with a
      rw [a] at hd; exact hd hd'
    · rw [if_neg hj]
theorem HR.unghost {h : Heap} {w : World} {ρ : Rho} (H : HR ρ h w) {B : Nat} {l l' : List Value} {ty : TypeId} (hg : h.get B = some (.cells l)) (hn : ρ B = none) (hv : VRl ρ l l') :
    Le ρ (updR ρ B (w.heap.size, 0) (fun k => if k = w.heap.size then l.length else ρ.n k)) ∧ HR (updR ρ B (w.heap.size, 0) (fun k => if k = w.heap.size then l.length else ρ.n k)) h (w.alloc (.cells l'.toArray ty)) := by
  have hle := updR_le (x := (w.heap.size, 0)) (f := fun k => if k = w.heap.size then l.length else ρ.n k) hn (fun c B base e => by have := H.lt c B base e; show (if B = w.heap.size then l.length else ρ.n B) = ρ.n B; rw [if_neg (by omega)])
  refine ⟨hle, ⟨?_, ?_, ?_, ?_⟩⟩
  · intro c C base x hx e
    by_cases hc : c = B
    · subst hc
      rw [hg] at hx; injection hx with hx; subst hx
      rw [updR_same] at e; injection e with e; injection e with e1 e2; subst e1; subst e2
      rw [updR_n, if_pos rfl, World.alloc_heap_new]
      refine (BR.of_cell (by simp [hv.1]) (fun j _ _ => inFr_zero j) (by simp) ?_).mono (Le.refl _)
      have : l'.take l.length = l' := List.take_of_length_le (by rw [hv.1]; exact Nat.le_refl _)
      simpa [this] using hv.mono hle
    · rw [updR_ne hc] at e
      have := H.lt _ _ _ e
      rw [alloc_old _ _ this, updR_n, if_neg (by omega)]
      exact (H.blk c C base x hx e).mono hle
  · intro c c' C bs bs' h1 h2 e1 e2
    by_cases hc : c = B <;> by_cases hc' : c' = B
    · rw [hc, hc']
    · subst hc
      rw [updR_same] at e1; rw [updR_ne hc'] at e2
      injection e1 with e1; injection e1 with e1 _
      have := H.lt _ _ _ e2; omega
    · subst hc'
      rw [updR_same] at e2; rw [updR_ne hc] at e1
      injection e2 with e2; injection e2 with e2 _
      have := H.lt _ _ _ e1; omega
    · rw [updR_ne hc] at e1; rw [updR_ne hc'] at e2
      exact H.inj c c' C bs bs' h1 h2 e1 e2
  · intro c hc
    have := Heap.get_lt hg
    rw [updR_ne (by omega)]
    exact H.fresh c hc
  · intro c C bs e1
    by_cases h1 : c = B
    · subst h1; rw [updR_same] at e1; injection e1 with e1; injection e1 with e1 _; simp; omega
    · rw [updR_ne h1] at e1; have := H.lt _ _ _ e1; simp; omega

theorem cl_set (cl : Cl ops S) (ho : ops[t.j]? = some t.o) (hp : ∀ e ∈ t.o.after, Region.binds .any e = true → S e.on = true) (hS' : ∀ i, S' i = if i = t.j then true else S i) : Cl ops S' := by
  have up : ∀ i, S i = true → S' i = true := fun i hi => by
    rw [hS']
    split
    · rfl
    · exact hi
  intro j o hj hjo e he hb
  rw [hS'] at hj
  split at hj
  · next h => subst h; rw [ho] at hjo; injection hjo with hjo; subst hjo; exact up _ (hp e he hb)
  · exact up _ (cl j o hj hjo e he hb)

/-- An operation that is due goes through, and the invariant holds behind it. -/
theorem inv_step (hstep : ∀ o a h v h', ostep P prim rec o a h = some (v, h') → StepOK P o a h v h') (hrel : Rel ops) (hlast : s0.last = none) (hreads : s0.reads = []) (hT : Tra P prim rec ops s0 T sN) (hσ : OrdOK ops (T.map (·.j))) (H0 : HR ρ0 s0.h w0) (e : T = T1 ++ t :: T2)
    (I : Inv P ops T sN.h s0.a ρ0 s0.h w0 S ρ w b) (hS : S t.j = false) (hp : ∀ e ∈ t.o.after, Region.binds .any e = true → S e.on = true) (hS' : ∀ i, S' i = if i = t.j then true else S i)
    (R : Option Nat) (Q : Exit → Act → World → Prop) (K : Act → World → Prop) (k : ∀ ρ' w' b', Inv P ops T sN.h s0.a ρ0 s0.h w0 S' ρ' w' b' → K b' w') : wpOpIn (FF R) 0 P ops Q t.j K b w := by
  obtain ⟨s1, s2, h1, h2, h3⟩ : ∃ s1 s2, Tra P prim rec ops s0 T1 s1 ∧ StpOK P prim rec ops s1 t s2 ∧ Tra P prim rec ops s2 T2 sN := by subst e; exact hT.at
  obtain ⟨n1, n2, n3⟩ := ord_ne hσ e
  have htT : t ∈ T := by rw [e]; simp
  have hag := agree_eval (a := ⟨curT S s0.a.tr T, s0.a.size, s0.a.marks⟩) (a' := t.a) (fun x hx => agree hrel hT hσ e I.cl hS hp hx)
  have hcl := cl_set I.cl h2.op hp hS'
  have hput := cur_put hrel hT hσ e I.cl hS hp hS' s0.a.tr
  have hsz : s1.a.size = s0.a.size := h1.tmps.1
  -- the temporaries
  have har : ∀ ρ' v', VR ρ' t.v v' → Le ρ ρ' → AR ρ' ⟨curT S' s0.a.tr T, s0.a.size, s0.a.marks⟩ (b.put t.o.dst v') := by
    intro ρ' v' hv hle
    have hex : ∃ a2, A.put ⟨curT S s0.a.tr T, s0.a.size, s0.a.marks⟩ t.o.dst t.v = some a2 := by
      have := h2.put
      cases hd : t.o.dst with
      | none => exact ⟨_, rfl⟩
      | some y =>
        rw [hd] at this
        simp only [A.put_eq] at this ⊢
        rw [hsz] at this
        cases hy : Nat.blt y s0.a.size with
        | false => rw [hy] at this; cases this
        | true => exact ⟨_, rfl⟩
    obtain ⟨a2, ha2⟩ := hex
    refine ((I.ar.mono hle).put hv ha2).of_get (put_get ha2 0).1.symm (put_get ha2 0).2.1.symm (fun x => ?_)
    rw [(put_get ha2 x).2.2]
    exact hput x
  have hhat : t.k ≠ 3 → hAt S' sN.h T = hAt S sN.h T := fun hk => hAt_congr (fun t' ht' hk' => by
    rw [hS']
    by_cases hj : t'.j = t.j
    · exfalso
      rw [e] at ht'
      rcases List.mem_append.1 ht' with h | h
      · exact n1 t' h hj
      · rcases List.mem_cons.1 h with rfl | h
        · exact hk hk'
        · exact n2 t' h hj
    · rw [if_neg hj])
  have hback : ∀ i, S' i = false → S i = false := fun i hi => by
    rw [hS'] at hi
    split at hi
    · cases hi
    · exact hi
  -- an operation that leaves the heap as it is
  have quiet : t.k ≠ 3 → ∀ ρ' w' v', VR ρ' t.v v' → HR ρ' (hAt S sN.h T) w' → Ext ρ (hAt S sN.h T) w ρ' (hAt S sN.h T) w' → Inv P ops T sN.h s0.a ρ0 s0.h w0 S' ρ' w' (b.put t.o.dst v') := by
    intro hk ρ' w' v' hv hH hE
    refine ⟨hcl, ?_, har ρ' v' hv hE.le, ?_, ?_⟩
    · rw [hhat hk]; exact hH
    · rw [hhat hk]; exact I.ext.trans hE
    · intro u hu hku hSu
      obtain ⟨g1, g2⟩ := I.gi u hu hku (hback _ hSu)
      refine ⟨?_, by rw [hhat hk]; exact g2⟩
      cases hx : ρ' u.h.next with
      | none => rfl
      | some x =>
        have := hE.fresh _ _ _ hx g1
        rw [hH.fresh _ this] at hx; cases hx
  unfold wpOpIn
  rw [h2.op]
  simp only
  rw [awanted_eq I.ar, hag.2, h2.a]
  rcases h2.case with c | c | c | c | c
  · obtain ⟨ck, cw, cv, ch, _, _⟩ := c
    rw [cw]
    simp only [Bool.false_eq_true, if_false]
    refine ⟨fun _ _ => trivial, ?_⟩
    have := quiet (by omega) ρ w undef (by rw [cv]; exact VR_undef ρ) I.hr (Ext.refl _ _ _)
    exact k _ _ _ this
  · obtain ⟨ck, cw, cop, ch, _, _⟩ := c
    rw [cw]
    simp only [if_true]
    have hop : aop P t.o ⟨curT S s0.a.tr T, s0.a.size, s0.a.marks⟩ (hAt S sN.h T) = some (t.v, hAt S sN.h T) := by
      rw [aop_congr _ hag.1, h2.a]; exact cop _
    refine step_of_op hop R ρ w b K Q I.hr I.ar ?_
    intro ρ' v' w' hv hH hE
    exact k _ _ _ (quiet (by omega) ρ' w' v' hv hH hE)
  · obtain ⟨ck, cw, cl, ckind, cop, ch, _, crd⟩ := c
    rw [cw]
    simp only [if_true]
    have hbef : ∀ t' ∈ T1, t'.k = 3 → S t'.j = true := fun t' ht' hk' => I.cl.rdy h2.op hp ((e ▸ hT).before (.inl ck) t' ht' hk')
    have hop : aop P t.o ⟨curT S s0.a.tr T, s0.a.size, s0.a.marks⟩ (hAt S sN.h T) = some (t.v, hAt S sN.h T) := by
      rw [aop_congr _ hag.1, h2.a]
      have hH : hAt S sN.h T = hAt S sN.h T2 := by
        rw [e, hAt_skip hbef]
        have : Nat.beq t.k 3 = false := by rw [ck]; rfl
        simp only [hAt, this, Bool.false_and, cond_false]
      rw [hH]
      have hs2 : s2.h = s1.h := by rw [h2.h', ch, h2.h]
      refine Tra.read (r := (t.j, t.o, s1.a, t.v)) ckind h3 (by rw [crd]; simp) ?_ (by simp only; rw [hs2]; exact cop)
      intro t' ht' hk' hSt' hanc
      rw [I.cl.anc hanc hSt'] at hS; cases hS
    refine step_of_op hop R ρ w b K Q I.hr I.ar ?_
    intro ρ' v' w' hv hH hE
    exact k _ _ _ (quiet (by omega) ρ' w' v' hv hH hE)
  · obtain ⟨ck, cw, cl, _, _, _⟩ := c
    rw [cw]
    simp only [if_true]
    obtain ⟨gρ, gi⟩ := I.gi t htT ck hS
    have hbef : ∀ t' ∈ T1, t'.k = 3 → S t'.j = true := fun t' ht' hk' => I.cl.rdy h2.op hp ((e ▸ hT).before (.inr (.inl ck)) t' ht' hk')
    have hlt : t.h.next < (hAt S sN.h T).next := by
      rw [e, hAt_skip hbef]
      have : Nat.beq t.k 3 = false := by rw [ck]; rfl
      simp only [hAt, this, Bool.false_and, cond_false]
      have a := h3.hAt_next (S := S)
      obtain ⟨l, mk, _, _, e3⟩ := h2.alloc ck
      rw [h2.h', e3, Heap.push_next] at a
      omega
    obtain ⟨l, mk, ga, gv, gg⟩ := gi hlt
    rw [← allocOf_congr hag.1] at ga
    obtain ⟨hnd, l', ty, mk', hrun, hvl, hval⟩ := alloc_run (P := P) (w := w) I.ar ga
    obtain ⟨hle, hHR⟩ := I.hr.unghost (ty := ty) gg gρ hvl
    have hsame := updR_same ρ t.h.next (w.heap.size, 0) (fun k => if k = w.heap.size then l.length else ρ.n k)
    have hother : ∀ c, c ≠ t.h.next → updR ρ t.h.next (w.heap.size, 0) (fun k => if k = w.heap.size then l.length else ρ.n k) c = ρ c := fun c hc => updR_ne hc
    generalize updR ρ t.h.next (w.heap.size, 0) (fun k => if k = w.heap.size then l.length else ρ.n k) = ρ' at hle hHR hsame hother
    refine ⟨fun _ _ => trivial, ?_⟩
    rw [Oper.semAt_eq _ _ _ hnd, hrun]
    refine k ρ' _ _ ⟨hcl, ?_, har ρ' _ (by rw [gv]; exact hval ρ' _ _ hsame) hle, ?_, ?_⟩
    · rw [hhat (by omega)]; exact hHR
    · rw [hhat (by omega)]
      exact {
        le := I.ext.le.trans hle
        km := I.ext.km
        frame := fun B hB hn => by rw [alloc_old _ _ (Nat.lt_of_lt_of_le hB I.ext.size)]; exact I.ext.frame B hB hn
        size := by have := I.ext.size; simp; omega
        os := I.ext.os
        tape := I.ext.tape
        output := I.ext.output
        new := fun c C base e1 e2 => by
          by_cases hc : c = t.h.next
          · subst hc; rw [hsame] at e1; injection e1 with e1; injection e1 with e1 _
            exact .inl (by have := I.ext.size; omega)
          · rw [hother c hc] at e1; exact I.ext.new c C base e1 e2
        next := I.ext.next
        fresh := fun c C base e1 e2 => by
          by_cases hc : c = t.h.next
          · subst hc; exact (hT.mem_next t htT).1
          · rw [hother c hc] at e1; exact I.ext.fresh c C base e1 e2
        ghost := I.ext.ghost
        fro := fun c hc0 => by
          rw [← I.ext.fro c hc0]
          refine fro_of (B := w.heap.size) (fun k hk => ?_) (fun off => by rw [Array.getElem?_eq_none (Nat.le_refl _), World.alloc_heap_new]; exact inFr_zero off) c
          by_cases hk2 : k < w.heap.size
          · exact alloc_old _ _ hk2
          · rw [Array.getElem?_eq_none (by simp; omega), Array.getElem?_eq_none (by omega)] }
    · intro u hu hku hSu
      obtain ⟨g1, g2⟩ := I.gi u hu hku (hback _ hSu)
      refine ⟨?_, by rw [hhat (by omega)]; exact g2⟩
      have hne : u.h.next ≠ t.h.next := by
        rw [e] at hu
        rcases List.mem_append.1 hu with h | h
        · have := h1.alloc_next u h hku
          rw [h2.h]; omega
        · rcases List.mem_cons.1 h with rfl | h
          · rw [hS', if_pos rfl] at hSu; cases hSu
          · have a := (h3.mem_next u h).1
            obtain ⟨l2, mk2, _, _, e3⟩ := h2.alloc ck
            rw [h2.h', e3, Heap.push_next] at a
            omega
      rw [hother _ hne]; exact g1
  · obtain ⟨ck, cw, cl, cop, _, _, _⟩ := c
    rw [cw]
    simp only [if_true]
    have hbef : ∀ t' ∈ T1, t'.k = 3 → S t'.j = true := fun t' ht' hk' => I.cl.rdy h2.op hp ((e ▸ hT).before (.inr (.inr ck)) t' ht' hk')
    have haft : ∀ t' ∈ T2, t'.k = 3 → S' t'.j = false := by
      intro t' ht' hk'
      rw [hS', if_neg (n2 t' ht')]
      cases hs : S t'.j with
      | false => rfl
      | true => rw [I.cl.anc ((e ▸ hT).after ck t' ht' hk') hs] at hS; cases hS
    have hH : hAt S sN.h T = t.h := by
      rw [e, hAt_skip hbef]
      have : (Nat.beq t.k 3 && !S t.j) = true := by rw [ck, hS]; rfl
      simp only [hAt, this, cond_true]
    have hH' : hAt S' sN.h T = hAt S' sN.h T2 := by
      rw [e, hAt_skip (fun t' ht' hk' => by rw [hS', if_neg (n1 t' ht')]; exact hbef t' ht' hk')]
      have : (Nat.beq t.k 3 && !S' t.j) = false := by rw [hS', if_pos rfl]; simp
      simp only [hAt, this, cond_false]
    have hop : ostep P prim rec t.o ⟨curT S s0.a.tr T, s0.a.size, s0.a.marks⟩ (hAt S sN.h T) = some (t.v, t.h') := by
      rw [ostep_congr _ hag.1, h2.a, hH, h2.h]; exact cop
    have hs2 : s2.h = t.h' := h2.h'
    have hseg := h3.seg (S := S') haft
    rw [hs2] at hseg
    refine hstep _ _ _ _ _ hop R ρ w b K Q I.hr I.ar ?_
    intro ρ' v' w' hv hHR hE
    refine k ρ' _ _ ⟨hcl, ?_, har ρ' v' hv hE.le, ?_, ?_⟩
    · rw [hH']; exact hHR.grown hseg
    · rw [hH']; exact (I.ext.trans hE).grown H0 hseg
    · intro u hu hku hSu
      obtain ⟨g1, g2⟩ := I.gi u hu hku (hback _ hSu)
      have hpos : u ∈ T1 ∨ u ∈ T2 := by
        rw [e] at hu
        rcases List.mem_append.1 hu with h | h
        · exact .inl h
        · rcases List.mem_cons.1 h with rfl | h
          · omega
          · exact .inr h
      refine ⟨?_, ?_⟩
      · cases hx : ρ' u.h.next with
        | none => rfl
        | some x =>
          have a := hE.fresh _ _ _ hx g1
          rw [hH] at a
          rcases hpos with h | h
          · have := h1.alloc_next u h hku
            rw [← h2.h] at this; omega
          · have := (h3.mem_next u h).1
            rw [hs2] at this
            rw [hHR.fresh _ this] at hx; cases hx
      · intro hn
        rcases hpos with h | h
        · have a := h1.alloc_next u h hku
          rw [← h2.h, ← hH] at a
          obtain ⟨l, mk, b1, b2, b3⟩ := g2 a
          refine ⟨l, mk, b1, b2, ?_⟩
          rw [hH', hseg.get (Nat.lt_of_lt_of_le a hE.next), hE.ghost _ a g1, b3]
        · rw [hH'] at hn ⊢
          exact h3.fresh_block haft h hku hn
end step
end Go.AM
