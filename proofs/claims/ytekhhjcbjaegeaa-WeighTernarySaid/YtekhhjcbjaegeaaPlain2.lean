/- The plain law of the weighings with two pans: the first weighing in falling order is the reference's. -/
import Derived.Test.YtekhhjcbjaegeaaRefPans
set_option linter.all false
namespace Go.Proofs.Ytekhhjcbjaegeaa
theorem dot_sum : ∀ (l ws : List Int), (∀ v ∈ l, -1 ≤ v ∧ v ≤ 1) → (∀ y ∈ ws, 0 ≤ y) → -ws.sum ≤ dot l ws ∧ dot l ws ≤ ws.sum
  | l, [], _, _ => by rw [dot_nil]; simp
  | [], w :: ws, h1, h2 => by
    have ih := dot_sum [] ws h1 (fun y hy => h2 y (List.mem_cons_of_mem _ hy))
    have hw := h2 w (List.mem_cons_self ..)
    have e : dot [] ws = 0 := by cases ws <;> rfl
    rw [e] at ih
    rw [show dot [] (w :: ws) = 0 from rfl, List.sum_cons]; omega
  | v :: l, w :: ws, h1, h2 => by
    have ih := dot_sum l ws (fun v hv => h1 v (List.mem_cons_of_mem _ hv)) (fun y hy => h2 y (List.mem_cons_of_mem _ hy))
    have hv := h1 v (List.mem_cons_self ..)
    have hw := h2 w (List.mem_cons_self ..)
    simp only [dot, List.sum_cons]
    rcases (show v = -1 ∨ v = 0 ∨ v = 1 by omega) with rfl | rfl | rfl <;> omega
theorem pansE_map : ∀ (k : Nat) (x : List Int), pansE k x = (pansE k []).map (x ++ ·)
  | 0, x => by simp [pansE]
  | k + 1, x => by
    simp only [pansE, List.nil_append, List.append_nil, List.map_append]
    rw [pansE_map k (x ++ [1]), pansE_map k (x ++ [0]), pansE_map k (x ++ [-1]), pansE_map k [1], pansE_map k [0], pansE_map k [-1]]
    simp only [List.map_map, List.append_assoc]
    rfl
theorem find_pan {k : Nat} {v w t : Int} {ws : List Int} : (pansE k [v]).find? (fun l => decide (dot l (w :: ws) = t)) = ((pansE k []).find? (fun l => decide (dot l ws = t - v * w))).map (v :: ·) := by
  rw [pansE_map k [v], List.find?_map]
  have e : ((fun l => decide (dot l (w :: ws) = t)) ∘ fun x => [v] ++ x) = fun l => decide (dot l ws = t - v * w) := by
    funext l
    have : (v * w + dot l ws = t) = (dot l ws = t - v * w) := propext ⟨fun h => by omega, fun h => by omega⟩
    simp only [Function.comp, List.singleton_append, dot, this]
  rw [e]; rfl
theorem pans_ref : ∀ (ws : List Int) (t : Int), (∀ y ∈ ws, 0 ≤ y) → (pansE ws.length []).find? (fun l => decide (dot l ws = t)) = refP ws t
  | [], t, _ => by
    by_cases h : 0 < t ∨ t < 0
    · rw [refP, if_pos h]
      have : ¬ ((0 : Int) = t) := by omega
      simp [pansE, dot, this]
    · rw [refP, if_neg h]
      have : (0 : Int) = t := by omega
      simp [pansE, dot, this]
  | w :: ws, t, h => by
    have ih := fun t => pans_ref ws t (fun y hy => h y (List.mem_cons_of_mem _ hy))
    by_cases ho : (w :: ws).sum < t ∨ t < -(w :: ws).sum
    · rw [refP_out ho, List.find?_eq_none]
      intro l hl
      have hg := pansE_wg _ [] (fun v hv => by cases hv) l hl
      have := dot_sum l (w :: ws) hg.2 h
      simp only [decide_eq_true_eq]
      omega
    · rw [refP, if_neg ho]
      simp only [List.length_cons, pansE, List.nil_append, List.append_nil, List.find?_append, find_pan, ih, altR]
      cases refP ws (t - 1 * w) with
      | some y => rfl
      | none =>
        cases refP ws (t - 0 * w) with
        | some y => rfl
        | none =>
          cases refP ws (t - -1 * w) with
          | some y => rfl
          | none => rfl
end Go.Proofs.Ytekhhjcbjaegeaa
