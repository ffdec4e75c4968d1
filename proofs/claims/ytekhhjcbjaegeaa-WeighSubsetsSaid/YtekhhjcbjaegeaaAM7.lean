/- append, copy, len, cap, clear. -/
import Derived.Test.YtekhhjcbjaegeaaAM6
import Derived.Laws.Append
set_option linter.all false
namespace Go.AM
open Go
variable {P : Program}

def bytesL (s : ByteArray) : List Value := s.data.toList.map fun b => .int .u8 b.toNat
/-- What is appended, or copied from: how many elements, and their cells. -/
def source (x : Value) (sz : Nat) (n? : Nat → Nat) (h : Heap) : Option (Nat × List Value) :=
  match x with
  | .slice none 0 0 => some (n? 0, [])
  | .slice (some ⟨b, o, f⟩) n _ => (h.rd b).bind fun cs => (cut cs o (n? n * sz)).map fun l => (n? n, l)
  | .string s => bif Nat.beq sz 1 then some (n? s.size, (bytesL s).take (n? s.size)) else none
  | _ => none
theorem source_sound {ρ : Rho} {h : Heap} {w : World} {x x' : Value} {sz n : Nat} {l : List Value} {g : Nat → Nat} (H : HR ρ h w) (hx : VR ρ x x') (hg : ∀ k, g k ≤ k) (e : source x sz g h = some (n, l)) :
    ∃ k, (∀ w', (Builtin.lenOf x').run P w' = .ok k w') ∧ n = g k ∧ l.length = n * sz ∧ ∃ l' : List Value, VRl ρ l l' ∧ ∀ w', w'.heap = w.heap → (Builtin.firstCells sz n x').run P w' = .ok l'.toArray w' := by
  unfold source at e
  split at e
  · injection e with e; injection e with e1 e2; subst e1; subst e2
    obtain rfl : x' = .slice none 0 0 := hx.eq_of_flat1 rfl
    have : g 0 = 0 := Nat.le_zero.1 (hg 0)
    exact ⟨0, fun w' => by simp [Builtin.lenOf], rfl, by simp [this], [], VRl.nil _, fun w' _ => by simp [Builtin.firstCells]⟩
  · next b o f m c =>
    simp only [Option.bind_eq_some_iff, Option.map_eq_some_iff, Prod.mk.injEq] at e
    obtain ⟨cs, hcs, l', hl, rfl, rfl⟩ := e
    obtain ⟨B, base, c', hρ, rfl, _, _, _⟩ := hx.slice_inv
    have hb := Heap.rd_blk H hcs hρ
    obtain ⟨l'', hr, hv⟩ := load_row (P := P) hb hl
    exact ⟨m, fun w' => by simp [Builtin.lenOf], rfl, (cut_some hl).2.1, l'', hv, fun w' hw' => by simp [Builtin.firstCells, hr w' hw']⟩
  · next s =>
    cases hb : Nat.beq sz 1 with
    | false => rw [hb] at e; cases e
    | true =>
      rw [hb] at e
      obtain rfl := Nat.eq_of_beq_eq_true hb
      simp only [cond_true, Option.some.injEq, Prod.mk.injEq] at e
      obtain ⟨rfl, rfl⟩ := e
      obtain rfl := hx.string_inv
      refine ⟨s.size, fun w' => by simp [Builtin.lenOf], rfl, ?_, (bytesL s).take (g s.size), VRl_refl_flat ?_, fun w' _ => ?_⟩
      · have := hg s.size
        simp [bytesL]
        have : s.data.size = s.size := rfl
        omega
      · rw [List.all_eq_true]
        intro v hv
        have := List.mem_of_mem_take hv
        simp only [bytesL, List.mem_map] at this
        obtain ⟨b, _, rfl⟩ := this
        rfl
      · simp only [Builtin.firstCells, Sem.run_pure]
        congr 1
        apply Array.ext'
        simp [bytesL, ByteArray.data_extract, List.map_take]
  · cases e

def notInt (P : Program) (t : TypeId) : Bool := match P.underlying t with | some (.slice _) | some .string => true | _ => false
theorem notInt_some {t : TypeId} (h : notInt P t = true) : (∃ e, P.underlying t = some (.slice e)) ∨ P.underlying t = some .string := by
  unfold notInt at h
  split at h
  · next e hu => exact .inl ⟨e, hu⟩
  · next hu => exact .inr hu
  · cases h
theorem run_append_grow' {ats : Array TypeId} {t tx ty e : TypeId} {i : TypeInfo} {z : Value} {w : World} (ha0 : ats[0]? = some t) (ha1 : ats[1]? = some tx) (ht : P.underlying t = some (.slice e)) (hx : notInt P tx = true) (hi : P.info? e = some i) (hz : i.zero = some z)
    (S : Option Addr) (sLen sCap n : Nat) (x : Value) (olds news : List Value) (hn : ∀ w', (Builtin.lenOf x).run P w' = .ok n w') (ho : (Builtin.firstCells i.size sLen (.slice S sLen sCap)).run P w.drew = .ok olds.toArray w.drew)
    (hnw : (Builtin.firstCells i.size n x).run P w.drew = .ok news.toArray w.drew) (hg : sCap < sLen + n) (hfit : Builtin.nextslicecap (sLen + n) sCap * i.bytes ≤ 281474976710656) (hb0 : 0 < i.bytes) :
    (Builtin.append_ ats ty #[.slice S sLen sCap, x]).run P w =
      .ok (.slice (some ⟨w.heap.size, 0, none⟩) (sLen + n) (grownCap w (sLen + n) sCap e))
        (w.drew.alloc (.cells (olds.toArray ++ news.toArray ++ Builtin.zeroCells z.cells (grownCap w (sLen + n) sCap e - (sLen + n))) e)) := by
  have h1 : ¬ (sLen + n ≤ sCap) := by omega
  have h48' : ¬ (281474976710656 < Builtin.nextslicecap (sLen + n) sCap * i.bytes) := by omega
  have hb1 : i.bytes ≠ 0 := by omega
  rcases notInt_some hx with ⟨d, hu⟩ | hu
  all_goals
    simp [Builtin.append_, ha0, ha1, run_underlying ht, run_underlying hu, sizeOf, typeInfo, zeroValue, hi, hz, hn, h1, h48', hb1, Question.forced, hnw, ho, newRow, grownCap]
    congr 2
    apply Array.ext'
    simp [List.append_assoc]
theorem run_append_room' {ats : Array TypeId} {t tx ty e : TypeId} {i : TypeInfo} {w w' : World} (ha0 : ats[0]? = some t) (ha1 : ats[1]? = some tx) (ht : P.underlying t = some (.slice e)) (hx : notInt P tx = true) (hi : P.info? e = some i)
    (S : Option Addr) (sLen sCap n : Nat) (x : Value) (news : List Value) (hn : ∀ w', (Builtin.lenOf x).run P w' = .ok n w')
    (hnw : (Builtin.firstCells i.size n x).run P w = .ok news.toArray w) (hg : sLen + n ≤ sCap)
    (hs : ∀ a, S = some a → (storeCells (a.add (sLen * i.size)) news).run P w = .ok () w') (hs0 : S = none → w' = w) :
    (Builtin.append_ ats ty #[.slice S sLen sCap, x]).run P w = .ok (.slice S (sLen + n) sCap) w' := by
  cases S with
  | none =>
    obtain rfl := hs0 rfl
    rcases notInt_some hx with ⟨d, hu⟩ | hu <;> simp [Builtin.append_, ha0, ha1, run_underlying ht, run_underlying hu, sizeOf, typeInfo, hi, hn, hg, hnw]
  | some a =>
    have hs := hs a rfl
    rcases notInt_some hx with ⟨d, hu⟩ | hu <;> simp [Builtin.append_, ha0, ha1, run_underlying ht, run_underlying hu, sizeOf, typeInfo, hi, hn, hg, hnw, hs]
theorem grownCap_ge (w : World) (need old : Nat) (e : TypeId) : need ≤ grownCap w need old e := by
  unfold grownCap Question.cut
  exact Nat.le_add_right _ _

/-- append: nothing new; into room that is known; into a new row; into a row of which nobody knows whether it has room: it is given up. -/
def aappend (P : Program) (ats : Array TypeId) (s x : Value) (h : Heap) : Option (Value × Heap) :=
  (ats[0]?).bind fun t => (ats[1]?).bind fun tx => bif notInt P tx then
      (elemOfSlice P t).bind fun e => (P.info? e).bind fun i => (i.zero).bind fun z =>
        bif Nat.beq z.cells.size i.size && Nat.blt 0 i.bytes && Nat.ble i.bytes 65536 then
          (source x i.size id h).bind fun q =>
            match s with
            | .slice none 0 0 =>
              bif Nat.beq q.1 0 then some (.slice none 0 0, h)
              else bif Nat.ble q.1 1000000000 then some (.slice (some ⟨h.next, 0, some i.size⟩) q.1 q.1, h.push (.cells q.2)) else none
            | .slice (some ⟨b, o, f⟩) l c =>
              bif Nat.ble (l + q.1) c then
                (bif Nat.beq q.1 0 then some (s, h)
                else (h.cs b).bind fun cs => bif q.2.all (·.oneCell') && Nat.ble (o + l * i.size + q.2.length) cs.length then some (.slice (some ⟨b, o, f⟩) (l + q.1) c, h.put b (some (.cells (splice cs (o + l * i.size) q.2)))) else none)
              else bif Nat.ble (l + q.1) 1000000000 then
                (h.cs b).bind fun cs => (cut cs o (l * i.size)).bind fun olds =>
                  match f with
                  | none => some (.slice (some ⟨h.next, 0, some i.size⟩) (l + q.1) (l + q.1), h.push (.cells (olds ++ q.2)))
                  | some zz => bif Nat.beq zz i.size && q.2.all (·.oneCell') then some (.slice (some ⟨h.next, 0, some i.size⟩) (l + q.1) (l + q.1), (h.put b none).push (.cells (olds ++ q.2))) else none
              else none
            | _ => none else none else none
end Go.AM
