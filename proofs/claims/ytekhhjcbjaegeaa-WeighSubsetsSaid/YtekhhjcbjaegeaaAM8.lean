/- append and copy come to what the machine here says. -/
import Derived.Test.YtekhhjcbjaegeaaAM7
set_option linter.all false
namespace Go.AM
open Go
variable {P : Program}

theorem list_tail (L n' : List Value) (p q : Nat) (h : p + q ≤ L.length) : ((L.take (p + q) ++ n' ++ L.drop (p + q + n'.length)).drop p).take (q + n'.length) = (L.drop p).take q ++ n' := by
  rw [show L.take (p + q) = L.take p ++ (L.drop p).take q from List.take_add, List.append_assoc, List.append_assoc, List.drop_append, List.drop_eq_nil_of_le (by simp; omega), List.nil_append]
  rw [show (L.take p).length = p by simp; omega, Nat.sub_self, List.drop_zero, ← List.append_assoc, List.take_append]
  have h1 : ((L.drop p).take q ++ n').length = q + n'.length := by simp; omega
  rw [List.take_of_length_le (by omega), h1, Nat.sub_self]
  simp
theorem list_mid (L : List Value) (b n o q : Nat) (h : q = 0 ∨ o + q ≤ n) : (((L.drop b).take n).drop o).take q = (L.drop (b + o)).take q := by
  rcases h with h | h
  · subst h; simp
  · rw [List.drop_take, List.take_take, List.drop_drop]
    congr 1
    omega

theorem firstCells_drew {w : World} {sz n : Nat} {x : Value} {l : List Value} (h : ∀ w', w'.heap = w.heap → (Builtin.firstCells sz n x).run P w' = .ok l.toArray w') : (Builtin.firstCells sz n x).run P w.drew = .ok l.toArray w.drew := h w.drew rfl

/-- The new row of an append that grows. -/
theorem grown_new {ρ : Rho} {h : Heap} {w : World} (H : HR ρ h w) {l l' : List Value} {z : Value} {e : TypeId} {sz need K : Nat} (hv : VRl ρ l l') (hl : l.length = need * sz) (hz : z.cells.size = sz) (hK : need ≤ K) :
    ∃ ρ', HR ρ' (h.push (.cells l)) (w.drew.alloc (.cells (l'.toArray ++ Builtin.zeroCells z.cells (K - need)) e)) ∧ Ext ρ h w ρ' (h.push (.cells l)) (w.drew.alloc (.cells (l'.toArray ++ Builtin.zeroCells z.cells (K - need)) e)) ∧
      VR ρ' (.slice (some ⟨h.next, 0, some sz⟩) need need) (.slice (some ⟨w.heap.size, 0, none⟩) need K) := by
  have hzs : (Builtin.zeroCells z.cells (K - need)).size = (K - need) * sz := by simp [Builtin.zeroCells, hz]
  have hsz : (l'.toArray ++ Builtin.zeroCells z.cells (K - need)).size = K * sz := by
    rw [Array.size_append, hzs, List.size_toArray, ← hv.1, hl, ← Nat.add_mul]
    congr 1; omega
  obtain ⟨ρ', a, b, c, d⟩ := new_row (w' := w.drew.alloc (.cells (l'.toArray ++ Builtin.zeroCells z.cells (K - need)) e)) H (l := l) (C := l'.toArray ++ Builtin.zeroCells z.cells (K - need)) (t := e) rfl rfl rfl rfl
    (by rw [Array.size_append, List.size_toArray, ← hv.1]; omega) (by
      have : (l'.toArray ++ Builtin.zeroCells z.cells (K - need)).toList.take l.length = l' := by
        rw [Array.toList_append, List.toList_toArray, hv.1, List.take_left]
      rw [this]; exact hv)
  refine ⟨ρ', c, d, ?_⟩
  have := VR.slu (ρ := ρ') (b := h.next) (o := 0) (l := need) (c := need) (c' := K) (z := sz) a hK (by rw [b, hsz]; simp)
  simpa using this

theorem aappend_sound {ρ : Rho} {h h' : Heap} {w : World} {ats : Array TypeId} {ty : TypeId} {s x s' x' v : Value} (H : HR ρ h w) (hs : VR ρ s s') (hx : VR ρ x x') (e : aappend P ats s x h = some (v, h')) :
    Does P ρ h w v h' (Builtin.append_ ats ty #[s', x']) := by
  simp only [aappend, Option.bind_eq_some_iff] at e
  obtain ⟨t, ha0, tx, ha1, e⟩ := e
  cases hni : notInt P tx with
  | false => rw [hni] at e; cases e
  | true =>
  rw [hni] at e
  simp only [cond_true, Option.bind_eq_some_iff] at e
  obtain ⟨el, hu, i, hi, z, hz, e⟩ := e
  have hu := elemOfSlice_some hu
  cases hb : (Nat.beq z.cells.size i.size && Nat.blt 0 i.bytes && Nat.ble i.bytes 65536) with
  | false => rw [hb] at e; cases e
  | true =>
  rw [hb] at e
  simp only [Bool.and_eq_true, Nat.blt_eq] at hb
  obtain ⟨⟨hzs, hb0⟩, hb1⟩ := hb
  have hzs := Nat.eq_of_beq_eq_true hzs
  have hb1 := Nat.le_of_ble_eq_true hb1
  simp only [cond_true, Option.bind_eq_some_iff] at e
  obtain ⟨⟨n, news⟩, hsrc, e⟩ := e
  obtain ⟨k, hlen, hnk, hnl, news', hnv, hfc⟩ := source_sound (P := P) H hx (fun k => Nat.le_refl k) hsrc
  have hnk : n = k := hnk
  subst hnk
  have hfit : ∀ need old, old < need → need ≤ 1000000000 → Builtin.nextslicecap need old * i.bytes ≤ 281474976710656 := by
    intro need old h1 h2
    refine growslice_fits h1 ?_
    have : need * i.bytes ≤ 1000000000 * 65536 := Nat.mul_le_mul h2 hb1
    omega
  split at e
  · -- nil
    obtain rfl : s' = .slice none 0 0 := hs.eq_of_flat1 rfl
    simp only at e
    cases h0 : Nat.beq n 0 with
    | true =>
      rw [h0] at e
      obtain rfl := Nat.eq_of_beq_eq_true h0
      simp only [cond_true, Option.some.injEq, Prod.mk.injEq] at e
      obtain ⟨rfl, rfl⟩ := e
      refine Quiet.does H ⟨.slice none 0 0, ?_, .fl rfl⟩
      exact run_append_room' (w' := w) ha0 ha1 hu hni hi none 0 0 0 x' news' hlen (hfc w rfl) (Nat.le_refl _) (fun a ha => by cases ha) (fun _ => rfl)
    | false =>
      rw [h0] at e
      simp only [cond_false] at e
      have hn0 : n ≠ 0 := fun h => by rw [h] at h0; cases h0
      cases h1 : Nat.ble n 1000000000 with
      | false => rw [h1] at e; cases e
      | true =>
        rw [h1] at e
        have h1 := Nat.le_of_ble_eq_true h1
        simp only [cond_true, Option.some.injEq, Prod.mk.injEq] at e
        obtain ⟨rfl, rfl⟩ := e
        have hr := run_append_grow' (ty := ty) (w := w) ha0 ha1 hu hni hi hz none 0 0 n x' [] news' hlen (by simp [Builtin.firstCells]) (firstCells_drew hfc) (by omega) (hfit _ _ (by omega) (by omega)) hb0
        obtain ⟨ρ', a, b, c⟩ := grown_new (z := z) (e := el) (K := grownCap w (0 + n) 0 el) H hnv hnl hzs (by have := grownCap_ge w (0 + n) 0 el; omega)
        refine ⟨ρ', _, _, hr, ?_, ?_, ?_⟩
        · simpa using c
        · simpa using a
        · simpa using b
  · next b o f l c =>
    obtain ⟨B, base, c', hρ, rfl, hcc, hc1, hc2⟩ := hs.slice_inv
    cases hroom : Nat.ble (l + n) c with
    | true =>
      simp only at e
      rw [hroom] at e
      have hroom := Nat.le_of_ble_eq_true hroom
      simp only [cond_true] at e
      cases h0 : Nat.beq n 0 with
      | true =>
        rw [h0] at e
        obtain rfl := Nat.eq_of_beq_eq_true h0
        simp only [cond_true, Option.some.injEq, Prod.mk.injEq] at e
        obtain ⟨rfl, rfl⟩ := e
        refine Quiet.does H ⟨_, ?_, hs⟩
        have hnil : news' = [] := List.eq_nil_of_length_eq_zero (by rw [← hnv.1, hnl]; simp)
        subst hnil
        exact run_append_room' (w' := w) ha0 ha1 hu hni hi (some ⟨B, base + o, none⟩) l c' 0 x' [] hlen (hfc w rfl) (by omega) (fun a ha => by simp [storeCells]) (fun ha => by cases ha)
      | false =>
        rw [h0] at e
        simp only [cond_false, Option.bind_eq_some_iff] at e
        obtain ⟨cs, hcs, e⟩ := e
        cases hcd : (news.all (·.oneCell') && Nat.ble (o + l * i.size + news.length) cs.length) with
        | false => rw [hcd] at e; cases e
        | true =>
          rw [hcd] at e
          simp only [Bool.and_eq_true] at hcd
          obtain ⟨h1, h2⟩ := hcd
          have h2 := Nat.le_of_ble_eq_true h2
          simp only [cond_true, Option.some.injEq, Prod.mk.injEq] at e
          obtain ⟨rfl, rfl⟩ := e
          obtain ⟨w', hr, hH, hE⟩ := store_cells (P := P) H (Heap.cs_some hcs) hρ hnv h1 h2
          refine ⟨ρ, .slice (some ⟨B, base + o, none⟩) (l + n) c', w', ?_, ?_, hH, hE⟩
          · refine run_append_room' ha0 ha1 hu hni hi (some ⟨B, base + o, none⟩) l c' n x' news' hlen (hfc w rfl) (by omega) (fun a ha => ?_) (fun ha => by cases ha)
            injection ha with ha; subst ha
            rw [add_at', Nat.add_assoc]; exact hr
          · cases f with
            | none => obtain rfl := hc1 rfl; exact .sl hρ
            | some zz => exact .slu hρ hcc (hc2 zz rfl)
    | false =>
      simp only at e
      rw [hroom] at e
      simp only [cond_false] at e
      have hroom : c < l + n := by
        rcases Nat.lt_or_ge c (l + n) with h1 | h1
        · exact h1
        · have := Nat.ble_eq_true_of_le h1; rw [this] at hroom; cases hroom
      cases h9 : Nat.ble (l + n) 1000000000 with
      | false => rw [h9] at e; cases e
      | true =>
        rw [h9] at e
        have h9 := Nat.le_of_ble_eq_true h9
        simp only [cond_true, Option.bind_eq_some_iff] at e
        obtain ⟨cs, hcs, olds, hol, e⟩ := e
        have hb := H.blk b B base _ (Heap.cs_some hcs) hρ
        obtain ⟨olds', hro, hov⟩ := load_cells (P := P) hb hol
        have hovl := (cut_some hol).2.1
        have hfo : ∀ w', w'.heap = w.heap → ∀ cc, (Builtin.firstCells i.size l (.slice (some ⟨B, base + o, none⟩) l cc)).run P w' = .ok olds'.toArray w' := fun w' hw' cc => by simp [Builtin.firstCells, hro w' hw']
        have hall : (olds ++ news).length = (l + n) * i.size := by rw [List.length_append, hovl, hnl, Nat.add_mul]
        have hav := hov.append hnv
        have grow : ∀ cc, cc < l + n → (Builtin.append_ ats ty #[.slice (some ⟨B, base + o, none⟩) l cc, x']).run P w =
            .ok (.slice (some ⟨w.heap.size, 0, none⟩) (l + n) (grownCap w (l + n) cc el)) (w.drew.alloc (.cells ((olds' ++ news').toArray ++ Builtin.zeroCells z.cells (grownCap w (l + n) cc el - (l + n))) el)) := by
          intro cc hcc'
          have := run_append_grow' (ty := ty) (w := w) ha0 ha1 hu hni hi hz (some ⟨B, base + o, none⟩) l cc n x' olds' news' hlen (hfo w.drew rfl cc) (firstCells_drew hfc) hcc' (hfit _ _ hcc' h9) hb0
          rw [this]
          simp
        cases f with
        | none =>
          obtain rfl := hc1 rfl
          simp only [Option.some.injEq, Prod.mk.injEq] at e
          obtain ⟨rfl, rfl⟩ := e
          obtain ⟨ρ', a, b', c2⟩ := grown_new (z := z) (e := el) (K := grownCap w (l + n) c' el) H hav hall hzs (grownCap_ge w (l + n) c' el)
          exact ⟨ρ', _, _, grow c' hroom, c2, a, b'⟩
        | some zz =>
          simp only at e
          cases hcd : (Nat.beq zz i.size && news.all (·.oneCell')) with
          | false => rw [hcd] at e; cases e
          | true =>
            rw [hcd] at e
            simp only [Bool.and_eq_true] at hcd
            obtain ⟨hzz, h1⟩ := hcd
            obtain rfl := Nat.eq_of_beq_eq_true hzz
            simp only [cond_true, Option.some.injEq, Prod.mk.injEq] at e
            obtain ⟨rfl, rfl⟩ := e
            have hc2 := hc2 i.size rfl
            by_cases hin : l + n ≤ c'
            · -- in place
              obtain ⟨C, ct, fr, e1, hN, hf, hsz, hcv⟩ := hb.cell
              have hmul : (l + n) * i.size ≤ c' * i.size := Nat.mul_le_mul_right _ hin
              rw [Nat.add_mul] at hmul
              have hnl' : news'.length = n * i.size := by rw [← hnv.1]; exact hnl
              have hol' := (cut_some hol)
              have hst := run_storeCells_fr P B (base + o + l * i.size) ct fr news' 0 C w e1 (fun k hk => hf _ (by omega) (by omega)) (by omega) (hnv.oneCell h1)
              have hnew := setRow_heap w B C ((C.toList.take (base + o + l * i.size) ++ news' ++ C.toList.drop (base + o + l * i.size + news'.length)).toArray) ct fr e1
              simp only [Nat.add_zero] at hst
              have hCl : C.toList.length = C.size := by simp
              obtain ⟨a, b2⟩ := H.move (b := b) (B := B) (base' := base + o) (x := .cells (olds ++ news)) (w' := w.setRow B ((C.toList.take (base + o + l * i.size) ++ news' ++ C.toList.drop (base + o + l * i.size + news'.length)).toArray))
                (by rw [Heap.cs_some hcs]; simp) hρ (fun k hk => setRow_other w B k _ hk) (size_setRow w B _) rfl rfl rfl (by
                  rw [hnew]
                  refine BR.of_cell ?_ (fun j h1 h2 => hf j (by omega) h2) ?_ ?_
                  · simp; omega
                  · rw [hall, Nat.add_mul]; omega
                  · rw [hall, Nat.add_mul, ← hnl', List.toList_toArray, list_tail _ _ _ _ (by omega)]
                    refine VRl.append ?_ hnv
                    have h3 := (hcv.drop o).take (l * i.size)
                    rw [list_mid _ _ _ _ _ (by have := hol'.2.2; omega), ← hol'.1] at h3
                    exact h3) (frz_row e1)
              refine ⟨_, .slice (some ⟨B, base + o, none⟩) (l + n) c', _, ?_, ?_, a, b2⟩
              · refine run_append_room' ha0 ha1 hu hni hi (some ⟨B, base + o, none⟩) l c' n x' news' hlen (hfc w rfl) hin (fun a ha => ?_) (fun ha => by cases ha)
                injection ha with ha; subst ha
                rw [add_at']; exact hst
              · have := VR.slu (ρ := updR ρ h.next (B, base + o) ρ.n) (b := h.next) (o := 0) (l := l + n) (c := l + n) (c' := c') (z := i.size) (updR_same _ _ _ _) hin (by rw [updR_n]; omega)
                simpa using this
            · -- a new row
              have hkb : b < h.next := Heap.get_lt (Heap.cs_some hcs)
              obtain ⟨K1, K2⟩ := H.kill hkb (by rw [hρ]; simp)
              obtain ⟨ρ', a, b', c3⟩ := grown_new (z := z) (e := el) (K := grownCap w (l + n) c' el) K1 hav hall hzs (grownCap_ge w (l + n) c' el)
              exact ⟨ρ', _, _, grow c' (by omega), c3, a, K2.trans b'⟩
  · cases e
end Go.AM
