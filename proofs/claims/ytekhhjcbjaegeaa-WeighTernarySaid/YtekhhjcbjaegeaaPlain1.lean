/- Subsets by numbers and in their order. -/
import Derived.Test.YtekhhjcbjaegeaaRef
set_option linter.all false
set_option maxRecDepth 100000
namespace Go.Proofs.Ytekhhjcbjaegeaa
open Go Go.AM

/-! ### Subsets, by their numbers -/
def pairs (w : List Int) : List Item := (List.range (2 ^ w.length)).map fun j => (idxN j 62, (sumsL w).getD j 0)
def addI (n : Int) (y : Int) (p : Item) : Item := (p.1 ++ [n], p.2 + y)
theorem subsE_snoc : ∀ (w : List Int) (y : Int) (i : Int) (s : Item), (subsE (w ++ [y]) i s).Perm (subsE w i s ++ (subsE w i s).map (addI (i + w.length) y))
  | [], y, i, s => by simp [subsE, subsF, addI]
  | x :: w, y, i, s => by
    have h1 := subsE_snoc w y (i + 1) (s.1 ++ [i], s.2 + x)
    have h2 := subsE_snoc w y (i + 1) s
    have e : i + 1 + (w.length : Int) = i + ((x :: w).length : Int) := by simp; omega
    rw [e] at h1 h2
    -- both sides told anew
    have a1 : (subsE ((x :: w) ++ [y]) i s).Perm (subsE (w ++ [y]) (i + 1) (s.1 ++ [i], s.2 + x) ++ subsE (w ++ [y]) (i + 1) s) := by
      show (s :: (subsE (w ++ [y]) (i + 1) (s.1 ++ [i], s.2 + x) ++ subsF (w ++ [y]) (i + 1) s)).Perm _
      exact (List.perm_middle (a := s)).symm
    have a2 : (subsE (x :: w) i s).Perm (subsE w (i + 1) (s.1 ++ [i], s.2 + x) ++ subsE w (i + 1) s) := by
      show (s :: (subsE w (i + 1) (s.1 ++ [i], s.2 + x) ++ subsF w (i + 1) s)).Perm _
      exact (List.perm_middle (a := s)).symm
    refine a1.trans ((h1.append h2).trans ?_)
    refine List.Perm.trans ?_ (a2.append (a2.map _)).symm
    rw [List.map_append]
    generalize subsE w (i + 1) (s.1 ++ [i], s.2 + x) = A
    generalize subsE w (i + 1) s = B
    generalize A.map (addI (i + ((x :: w).length : Int)) y) = C
    generalize B.map (addI (i + ((x :: w).length : Int)) y) = D
    -- (A ++ C) ++ (B ++ D) ~ (A ++ B) ++ (C ++ D)
    rw [List.append_assoc, List.append_assoc]
    refine List.Perm.append_left A ?_
    rw [← List.append_assoc, ← List.append_assoc]
    exact List.Perm.append_right D (List.perm_append_comm)
theorem idxN_add {n j : Nat} (hj : j < 2 ^ n) (hn : n < 62) : idxN (2 ^ n + j) 62 = idxN j 62 ++ [(n : Int)] := by
  have e1 : idxN (2 ^ n + j) (n + 1) = idxN j n ++ [(n : Int)] := by
    have hbit : (2 ^ n + j).testBit n = true := by rw [Nat.testBit_two_pow_add_eq, Nat.testBit_lt_two_pow hj]; rfl
    rw [idxN_succ, hbit, if_pos rfl]
    have : idxN (2 ^ n + j) n = idxN j n := by
      unfold idxN
      have : (List.range n).filter (fun k => (2 ^ n + j).testBit k) = (List.range n).filter (fun k => j.testBit k) := by
        apply List.filter_congr
        intro k hk
        rw [Nat.testBit_two_pow_add_gt (List.mem_range.1 hk)]
      rw [this]
    rw [this]
  have h1 := idxN_stop (A := 2 ^ n + j) (i := n + 1) (by rw [Nat.pow_succ]; omega) (62 - (n + 1))
  have h2 := idxN_stop hj (62 - n)
  rw [show n + 1 + (62 - (n + 1)) = 62 from by omega] at h1
  rw [show n + (62 - n) = 62 from by omega] at h2
  rw [h1, h2, e1]
theorem pairs_snoc {w : List Int} (y : Int) (hw : w.length < 62) : pairs (w ++ [y]) = pairs w ++ (pairs w).map (addI (w.length : Int) y) := by
  have hl := sumsL_len w.length w rfl
  unfold pairs
  have e1 : (w ++ [y]).length = w.length + 1 := by simp
  rw [e1, Nat.pow_succ, Nat.mul_two, List.range_add, List.map_append, List.map_map, List.map_map]
  congr 1
  · apply List.map_congr_left
    intro j hj
    have hj := List.mem_range.1 hj
    rw [sumsL_snoc, getD_app_left (by omega)]
  · apply List.map_congr_left
    intro j hj
    have hj := List.mem_range.1 hj
    simp only [Function.comp, addI]
    rw [idxN_add hj hw]
    congr 1
    rw [sumsL_snoc, List.getD_eq_getElem?_getD, List.getElem?_append_right (by omega), List.getElem?_map, hl, Nat.add_sub_cancel_left, List.getD_eq_getElem?_getD, List.getElem?_eq_getElem (by omega)]
    rfl
theorem subs_perm : ∀ (n : Nat) (w : List Int), w.length = n → n ≤ 62 → (subs w).Perm (pairs w) := by
  intro n
  induction n with
  | zero =>
    intro w h _
    rw [List.length_eq_zero_iff.1 h]
    exact List.Perm.refl _
  | succ n ih =>
    intro w h hn
    have hne : w ≠ [] := fun e => by rw [e] at h; cases h
    obtain ⟨v, y, rfl⟩ : ∃ v y, w = v ++ [y] := ⟨_, _, (List.dropLast_concat_getLast hne).symm⟩
    have hv : v.length = n := by simpa using h
    have ih' := ih v hv (by omega)
    rw [pairs_snoc y (by omega)]
    have := subsE_snoc v y 0 ([], 0)
    rw [Int.zero_add] at this
    exact this.trans (ih'.append (ih'.map _))

/-! ### Their order -/
theorem lexB_pre : ∀ (p a b : List Int), lexB (p ++ a) (p ++ b) = lexB a b
  | [], a, b => rfl
  | x :: p, a, b => by simp [lexB, lexB_pre p a b]
theorem lexB_nilc (x : Int) (a : List Int) : lexB [] (x :: a) = true := rfl
theorem subsF_pre : ∀ (w : List Int) (i : Int) (s p : Item), p ∈ subsF w i s → ∃ j t, i ≤ j ∧ p.1 = s.1 ++ j :: t
  | [], i, s, p, h => by cases h
  | x :: w, i, s, p, h => by
    simp only [subsF] at h
    rcases List.mem_cons.1 h with rfl | h
    · exact ⟨i, [], Int.le_refl _, rfl⟩
    rcases List.mem_append.1 h with h | h
    · obtain ⟨j, t, hj, e⟩ := subsF_pre w _ _ _ h
      exact ⟨i, j :: t, Int.le_refl _, by rw [e]; simp⟩
    · obtain ⟨j, t, hj, e⟩ := subsF_pre w _ _ _ h
      exact ⟨j, t, by omega, e⟩
theorem subsE_sorted : ∀ (w : List Int) (i : Int) (s : Item), (subsE w i s).Pairwise fun a b => lexB a.1 b.1 = true
  | [], i, s => by simp [subsE, subsF]
  | x :: w, i, s => by
    have h1 := subsE_sorted w (i + 1) (s.1 ++ [i], s.2 + x)
    have h2 := subsE_sorted w (i + 1) s
    have h2' : (subsF w (i + 1) s).Pairwise fun a b => lexB a.1 b.1 = true := (List.pairwise_cons.1 h2).2
    refine List.pairwise_cons.2 ⟨fun p hp => ?_, ?_⟩
    · obtain ⟨j, t, _, e⟩ := subsF_pre (x :: w) i s p hp
      rw [e]
      have := lexB_pre s.1 [] (j :: t)
      rw [List.append_nil] at this
      rw [this]; rfl
    · show (subsE w (i + 1) (s.1 ++ [i], s.2 + x) ++ subsF w (i + 1) s).Pairwise _
      rw [List.pairwise_append]
      refine ⟨h1, h2', fun p hp q hq => ?_⟩
      obtain ⟨j, t, hj, e⟩ := subsF_pre w (i + 1) s q hq
      have hp' : ∃ t', p.1 = s.1 ++ i :: t' := by
        rcases List.mem_cons.1 hp with rfl | hp
        · exact ⟨[], rfl⟩
        · obtain ⟨j', t', _, e'⟩ := subsF_pre w _ _ p hp
          exact ⟨j' :: t', by rw [e']; simp⟩
      obtain ⟨t', e'⟩ := hp'
      rw [e, e', lexB_pre]
      simp only [lexB]
      rw [if_pos (by omega)]
      simp; omega
theorem subs_sorted (w : List Int) : (subs w).Pairwise fun a b => lexB a.1 b.1 = true := subsE_sorted w 0 ([], 0)
theorem lexB_trans : ∀ {a b c : List Int}, lexB a b = true → lexB b c = true → lexB a c = true
  | a, [], c, h, _ => by rw [lexB_nil] at h; cases h
  | a, b :: vs, [], _, h => by rw [lexB_nil] at h; cases h
  | [], b :: vs, c :: ws, _, _ => rfl
  | a :: us, b :: vs, c :: ws, h1, h2 => by
    simp only [lexB] at h1 h2 ⊢
    by_cases e1 : a = b
    · subst e1
      rw [if_neg (by simp)] at h1
      by_cases e2 : a = c
      · subst e2
        rw [if_neg (by simp)] at h2 ⊢
        exact lexB_trans h1 h2
      · rw [if_pos e2] at h2 ⊢; exact h2
    · rw [if_pos e1] at h1
      by_cases e2 : b = c
      · subst e2
        rw [if_pos e1]; exact h1
      · rw [if_pos e2] at h2
        simp only [decide_eq_true_eq] at h1 h2
        rw [if_pos (by omega)]
        simp; omega
theorem lexB_asymm {a b : List Int} (h1 : lexB a b = true) : lexB b a = false := by
  cases h : lexB b a with
  | false => rfl
  | true => have := lexB_trans h1 h; rw [lexB_irrefl] at this; cases this

/-! ### The reference's Subset -/
theorem refSt_spec (S : List Int) (total : Int) : ∀ n, (match (refSt S total n).1 with
    | none => ∀ j, j < n → S.getD j 0 ≠ total
    | some b => (∃ j, j < n ∧ S.getD j 0 = total ∧ b = idxN j 62) ∧ ∀ j, j < n → S.getD j 0 = total → lexB (idxN j 62) b = false)
  | 0 => fun j hj => by omega
  | n + 1 => by
    have ih := refSt_spec S total n
    rw [refSt_succ]
    unfold refStep
    by_cases hS : S.getD n 0 = total
    · rw [if_pos hS]
      cases hb : (refSt S total n).1 with
      | none =>
        rw [hb] at ih
        refine ⟨⟨n, by omega, hS, rfl⟩, fun j hj hjS => ?_⟩
        by_cases hjn : j = n
        · subst hjn; exact lexB_irrefl _
        · exact absurd hjS (ih j (by omega))
      | some b =>
        rw [hb] at ih
        obtain ⟨⟨j0, h0, h1, rfl⟩, hall⟩ := ih
        simp only
        cases hl : lexB (idxN n 62) (idxN j0 62) with
        | true =>
          refine ⟨⟨n, by omega, hS, rfl⟩, fun j hj hjS => ?_⟩
          by_cases hjn : j = n
          · subst hjn; exact lexB_irrefl _
          · cases h : lexB (idxN j 62) (idxN n 62) with
            | false => rfl
            | true => have := lexB_trans h hl; rw [hall j (by omega) hjS] at this; cases this
        | false =>
          refine ⟨⟨j0, by omega, h1, rfl⟩, fun j hj hjS => ?_⟩
          by_cases hjn : j = n
          · subst hjn; exact hl
          · exact hall j (by omega) hjS
    · rw [if_neg hS]
      cases hb : (refSt S total n).1 with
      | none =>
        rw [hb] at ih
        intro j hj
        by_cases hjn : j = n
        · subst hjn; exact hS
        · exact ih j (by omega)
      | some b =>
        rw [hb] at ih
        obtain ⟨⟨j0, h0, h1, rfl⟩, hall⟩ := ih
        refine ⟨⟨j0, by omega, h1, rfl⟩, fun j hj hjS => ?_⟩
        by_cases hjn : j = n
        · subst hjn; exact absurd hjS hS
        · exact hall j (by omega) hjS
theorem refSt_count (S : List Int) (total : Int) : ∀ n, (refSt S total n).2 = (List.range n).countP fun j => decide (S.getD j 0 = total)
  | 0 => rfl
  | n + 1 => by
    rw [refSt_succ, List.range_succ, List.countP_append, ← refSt_count S total n]
    unfold refStep
    by_cases h : S.getD n 0 = total
    · rw [if_pos h, List.countP_cons_of_pos (by simpa using h)]; rfl
    · rw [if_neg h, List.countP_cons_of_neg (by simpa using h)]; rfl
theorem ways_ref {w : List Int} (hw : w.length ≤ 62) (total : Int) : (refSt (sumsL w) total (sumsL w).length).2 = waysN w total := by
  rw [refSt_count, sumsL_len _ w rfl]
  unfold waysN
  rw [(subs_perm _ w rfl hw).countP_eq]
  unfold pairs
  rw [List.countP_map]; rfl
theorem find_ref {w : List Int} (hw : w.length ≤ 62) (total : Int) : (refSt (sumsL w) total (sumsL w).length).1 = ((subs w).find? (subsetP total)).map (·.1) := by
  have hsp := refSt_spec (sumsL w) total (sumsL w).length
  have hl := sumsL_len _ w rfl
  have hperm := subs_perm _ w rfl hw
  have hmem : ∀ p : Item, p ∈ subs w ↔ ∃ j, j < 2 ^ w.length ∧ p = (idxN j 62, (sumsL w).getD j 0) := by
    intro p
    rw [hperm.mem_iff]
    unfold pairs
    rw [List.mem_map]
    constructor
    · rintro ⟨j, hj, rfl⟩; exact ⟨j, List.mem_range.1 hj, rfl⟩
    · rintro ⟨j, hj, rfl⟩; exact ⟨j, List.mem_range.2 hj, rfl⟩
  cases hf : (subs w).find? (subsetP total) with
  | none =>
    have hno := List.find?_eq_none.1 hf
    cases hb : (refSt (sumsL w) total (sumsL w).length).1 with
    | none => rfl
    | some b =>
      rw [hb] at hsp
      obtain ⟨⟨j, h0, h1, rfl⟩, _⟩ := hsp
      have := hno _ ((hmem _).2 ⟨j, by omega, rfl⟩)
      simp [subsetP, -List.getD_eq_getElem?_getD] at this
      exact absurd h1 this
  | some x =>
    obtain ⟨hx, us, vs, hsplit, hbefore⟩ := List.find?_eq_some_iff_append.1 hf
    have hxs : x.2 = total := by simpa [subsetP] using hx
    obtain ⟨jx, hjx, ejx⟩ := (hmem x).1 (by rw [hsplit]; simp)
    cases hb : (refSt (sumsL w) total (sumsL w).length).1 with
    | none =>
      rw [hb] at hsp
      exact absurd (by rw [ejx] at hxs; exact hxs) (hsp jx (by omega))
    | some b =>
      rw [hb] at hsp
      obtain ⟨⟨j, h0, h1, rfl⟩, hall⟩ := hsp
      have hmin := hall jx (by omega) (by rw [ejx] at hxs; exact hxs)
      have hjm : ((idxN j 62, (sumsL w).getD j 0) : Item) ∈ subs w := (hmem _).2 ⟨j, by omega, rfl⟩
      have hs := subs_sorted w
      rw [hsplit] at hjm hs
      rcases List.mem_append.1 hjm with hm | hm
      · have := hbefore _ hm
        simp [subsetP, -List.getD_eq_getElem?_getD] at this
        exact absurd h1 this
      · rcases List.mem_cons.1 hm with hm | hm
        · rw [← hm]; rfl
        · have hlt := (List.pairwise_cons.1 (List.pairwise_append.1 hs).2.1).1 _ hm
          rw [ejx] at hlt
          simp only at hlt
          rw [hmin] at hlt; cases hlt

/-! ### The errors -/
theorem check_err (xs : List Int) : checkV xs 12 = errV xs := by
  unfold checkV errV
  by_cases hl : 12 < xs.length
  · rw [if_pos (by omega), if_pos hl]
  · rw [if_neg (by omega), if_neg hl]
    by_cases hG : Good xs
    · rw [if_pos hG]
      obtain ⟨hne, hg⟩ := hG
      have hpos : 0 < xs.length := List.length_pos_iff.2 hne
      rw [if_neg, if_pos]
      · intro i hi
        have := (hg (i + 1) (by omega)).2 (by omega)
        rwa [Nat.add_sub_cancel] at this
      · rintro (h | h | h)
        · exact hne h
        · have := (hg 0 hpos).1.1; omega
        · have := (hg (xs.length - 1) (by omega)).1.2; omega
    · rw [if_neg hG]
      split
      · rfl
      next h1 =>
      split
      next h2 =>
        exfalso
        refine hG ⟨fun e => h1 (.inl e), ?_⟩
        have hf : ¬ xs.getD 0 0 < 1 := fun e => h1 (.inr (.inl e))
        have hla : ¬ 100000 < xs.getD (xs.length - 1) 0 := fun e => h1 (.inr (.inr e))
        have up : ∀ i, i < xs.length → xs.getD 0 0 ≤ xs.getD i 0 := by
          intro i
          induction i with
          | zero => intro _; omega
          | succ i ih => intro hi; have := h2 i (by omega); have := ih (by omega); omega
        have dn : ∀ k i, i + k + 1 = xs.length → xs.getD i 0 ≤ xs.getD (xs.length - 1) 0 := by
          intro k
          induction k with
          | zero => intro i hi; rw [show i = xs.length - 1 from by omega]; omega
          | succ k ih => intro i hi; have := h2 i (by omega); have := ih (i + 1) (by omega); omega
        intro j hj
        refine ⟨⟨by have := up j hj; omega, by have := dn (xs.length - 1 - j) j (by omega); omega⟩, fun hp => ?_⟩
        have := h2 (j - 1) (by omega)
        rwa [Nat.sub_add_cancel hp] at this
      · rfl
end Go.Proofs.Ytekhhjcbjaegeaa
