/- The plain law of the weights 1, 3, 9, ..: each total up to their sum has one weighing, and its digits are found by hand. -/
import Derived.Test.YtekhhjcbjaegeaaPlain2
set_option linter.all false
namespace Go.Proofs.Ytekhhjcbjaegeaa
def pow3 : Nat → Int
  | 0 => 1
  | n + 1 => pow3 n * 3
def l3 : Nat → List Int
  | 0 => []
  | n + 1 => l3 n ++ [pow3 n]
def s3 : Nat → Int
  | 0 => 0
  | n + 1 => s3 n + pow3 n
theorem s3_pow : ∀ n, 2 * s3 n + 1 = pow3 n
  | 0 => rfl
  | n + 1 => by have := s3_pow n; simp only [s3, pow3]; omega
theorem pow3_pos : ∀ n, 1 ≤ pow3 n
  | 0 => by decide
  | n + 1 => by have := pow3_pos n; simp only [pow3]; omega
theorem pow3_le : ∀ n, n ≤ 9 → pow3 n ≤ 19683 := by decide
theorem l3_len : ∀ n, (l3 n).length = n
  | 0 => rfl
  | n + 1 => by simp [l3, l3_len n]
theorem l3_sum : ∀ n, (l3 n).sum = s3 n
  | 0 => rfl
  | n + 1 => by simp [l3, s3, l3_sum n]
theorem l3_cons : ∀ n, l3 (n + 1) = 1 :: (l3 n).map (3 * ·)
  | 0 => rfl
  | n + 1 => by
    have ih := l3_cons n
    rw [show l3 (n + 1 + 1) = l3 (n + 1) ++ [pow3 (n + 1)] from rfl]
    conv => rhs; rw [show l3 (n + 1) = l3 n ++ [pow3 n] from rfl]
    rw [ih]
    simp [pow3, Int.mul_comm]
theorem l3_nn : ∀ n, ∀ y ∈ l3 n, 0 ≤ y
  | 0, y, h => by cases h
  | n + 1, y, h => by
    rcases List.mem_append.1 h with h | h
    · exact l3_nn n y h
    · rw [List.mem_singleton] at h; have := pow3_pos n; omega
theorem dot_scale : ∀ (l ws : List Int), dot l (ws.map (3 * ·)) = 3 * dot l ws
  | [], ws => by cases ws <;> rfl
  | v :: l, [] => by simp [dot]
  | v :: l, w :: ws => by
    simp only [List.map_cons, dot, dot_scale l ws, Int.mul_add]
    rw [← Int.mul_assoc, ← Int.mul_assoc, Int.mul_comm v 3]
theorem dot_uniq : ∀ n (l l' : List Int), Wg n l → Wg n l' → dot l (l3 n) = dot l' (l3 n) → l = l'
  | 0, l, l', h, h', _ => by rw [List.length_eq_zero_iff.1 h.1, List.length_eq_zero_iff.1 h'.1]
  | n + 1, [], _, h, _, _ => by have := h.1; simp at this
  | n + 1, _ :: _, [], _, h, _ => by have := h.1; simp at this
  | n + 1, v :: l, v' :: l', h, h', e => by
    rw [l3_cons, dot, dot, dot_scale, dot_scale] at e
    have hv := h.2 v (List.mem_cons_self ..)
    have hv' := h'.2 v' (List.mem_cons_self ..)
    have e1 : v = v' := by omega
    subst e1
    rw [dot_uniq n l l' ⟨by have := h.1; simpa using this, fun u hu => h.2 u (List.mem_cons_of_mem _ hu)⟩ ⟨by have := h'.1; simpa using this, fun u hu => h'.2 u (List.mem_cons_of_mem _ hu)⟩ (by omega)]
theorem pansE_mem : ∀ n (l : List Int), Wg n l → l ∈ pansE n []
  | 0, l, h => by rw [List.length_eq_zero_iff.1 h.1]; exact List.mem_singleton.2 rfl
  | n + 1, [], h => by have := h.1; simp at this
  | n + 1, v :: l, h => by
    have hv := h.2 v (List.mem_cons_self ..)
    have ih := pansE_mem n l ⟨by have := h.1; simpa using this, fun u hu => h.2 u (List.mem_cons_of_mem _ hu)⟩
    have e : ∀ u : Int, u = v → v :: l ∈ pansE n [u] := fun u hu => by
      subst hu
      rw [pansE_map]
      exact List.mem_map.2 ⟨l, ih, rfl⟩
    simp only [pansE, List.nil_append, List.append_nil, List.mem_append]
    rcases (show v = 1 ∨ v = 0 ∨ v = -1 by omega) with h1 | h1 | h1
    · exact .inl (e _ h1.symm)
    · exact .inr (.inl (e _ h1.symm))
    · exact .inr (.inr (e _ h1.symm))
/-- The digit found by hand. -/
def dg (r : Int) : Int := if r.tmod 3 = 2 then -1 else r.tmod 3
def rst (t : Int) : Nat → Int
  | 0 => t
  | i + 1 => (rst t i - dg (rst t i)).tdiv 3
def wl (t : Int) : Nat → List Int
  | 0 => []
  | i + 1 => wl t i ++ [dg (rst t i)]
theorem dg_step {r : Int} (h : 0 ≤ r) : (-1 ≤ dg r ∧ dg r ≤ 1) ∧ r = dg r + 3 * (r - dg r).tdiv 3 ∧ 0 ≤ (r - dg r).tdiv 3 := by
  have e : r.tmod 3 = r % 3 := by rw [Int.tmod_eq_emod_of_nonneg h]
  unfold dg
  rw [e]
  split
  · have h2 : 0 ≤ r - -1 := by omega
    rw [Int.tdiv_eq_ediv_of_nonneg h2]; omega
  · have h2 : 0 ≤ r - r % 3 := by omega
    rw [Int.tdiv_eq_ediv_of_nonneg h2]; omega
theorem rst_nn {t : Int} (h : 0 ≤ t) : ∀ i, 0 ≤ rst t i
  | 0 => h
  | i + 1 => (dg_step (rst_nn h i)).2.2
theorem wl_wg {t : Int} (h : 0 ≤ t) : ∀ i, Wg i (wl t i)
  | 0 => ⟨rfl, fun v hv => by cases hv⟩
  | i + 1 => by
    have ih := wl_wg h i
    refine ⟨by simp [wl, ih.1], fun v hv => ?_⟩
    rcases List.mem_append.1 hv with hv | hv
    · exact ih.2 v hv
    · rw [List.mem_singleton] at hv; subst hv; exact (dg_step (rst_nn h i)).1
theorem dot_snoc : ∀ (l ws : List Int) (v w : Int), l.length = ws.length → dot (l ++ [v]) (ws ++ [w]) = dot l ws + v * w
  | [], [], v, w, _ => by simp [dot]
  | [], _ :: _, _, _, h => by simp at h
  | _ :: _, [], _, _, h => by simp at h
  | a :: l, b :: ws, v, w, h => by
    simp only [List.cons_append, dot, dot_snoc l ws v w (by simpa using h)]; omega
theorem wl_dot {t : Int} (h : 0 ≤ t) : ∀ i, t = dot (wl t i) (l3 i) + pow3 i * rst t i
  | 0 => by simp [wl, l3, dot, pow3, rst]
  | i + 1 => by
    have ih := wl_dot h i
    have hd := (dg_step (rst_nn h i)).2.1
    simp only [wl, l3, pow3, rst]
    rw [dot_snoc _ _ _ _ (by rw [(wl_wg h i).1, l3_len])]
    have e : pow3 i * rst t i = dg (rst t i) * pow3 i + pow3 i * 3 * (rst t i - dg (rst t i)).tdiv 3 := by
      conv => lhs; rw [hd]
      rw [Int.mul_add, Int.mul_assoc, Int.mul_comm (dg _)]
    omega
theorem rst_le {t : Int} (h : 0 ≤ t) {n : Nat} (ht : t ≤ s3 n) : ∀ i, i ≤ n → rst t i ≤ s3 (n - i)
  | 0, _ => ht
  | i + 1, hi => by
    have ih := rst_le h ht i (by omega)
    obtain ⟨h1, h2, h3⟩ := dg_step (rst_nn h i)
    have e : s3 (n - i) = 3 * s3 (n - (i + 1)) + 1 := by
      have a := s3_pow (n - i)
      have b := s3_pow (n - (i + 1))
      rw [show n - i = (n - (i + 1)) + 1 from by omega] at a ⊢
      simp only [s3, pow3] at a ⊢
      omega
    simp only [rst]
    omega
theorem rst_end {t : Int} (h : 0 ≤ t) {n : Nat} (ht : t ≤ s3 n) : rst t n = 0 := by
  have a := rst_le h ht n (Nat.le_refl _)
  have b := rst_nn h n
  rw [Nat.sub_self] at a
  simp only [s3] at a
  omega
theorem tern_find {t : Int} (h : 0 ≤ t) {n : Nat} (ht : t ≤ s3 n) : (pansE (l3 n).length []).find? (pansP (l3 n) t) = some (wl t n) := by
  have hd : dot (wl t n) (l3 n) = t := by
    have := wl_dot h n
    rw [rst_end h ht] at this
    omega
  rw [l3_len]
  cases hf : (pansE n []).find? (pansP (l3 n) t) with
  | none =>
    have := List.find?_eq_none.1 hf _ (pansE_mem n _ (wl_wg h n))
    simp only [pansP, hd, decide_true, not_true] at this
  | some y =>
    have h1 := List.find?_some hf
    have h2 := pansE_wg n [] (fun v hv => by cases hv) y (List.mem_of_find?_eq_some hf)
    simp only [pansP, decide_eq_true_eq] at h1
    simp only [List.length_nil, Nat.zero_add] at h2
    rw [dot_uniq n y (wl t n) h2 (wl_wg h n) (by rw [h1, hd])]
theorem tern_none {n : Nat} : (pansE (l3 n).length []).find? (pansP (l3 n) (s3 n + 1)) = none := by
  rw [l3_len, List.find?_eq_none]
  intro y hy
  have h2 := pansE_wg n [] (fun v hv => by cases hv) y hy
  have := dot_sum y (l3 n) h2.2 (l3_nn n)
  rw [l3_sum] at this
  simp only [pansP, decide_eq_true_eq]
  omega
theorem chk3 : ∀ n, n ≤ 9 → 1 ≤ n → checkV (l3 n) 9 = 0 := by decide
theorem tot3 {n : Nat} {t : Int} (h : n ≤ 9) (h1 : 1 ≤ n) (ht : 0 ≤ t) : totalV (l3 n) 9 t = 0 := by
  unfold totalV
  rw [if_neg (fun k => by omega)]
  exact chk3 n h h1
end Go.Proofs.Ytekhhjcbjaegeaa
