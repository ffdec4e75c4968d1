/- Walk: the reference's Pans. -/
import Derived.Test.YtekhhjcbjaegeaaPans
import Derived.Test.YtekhhjcbjaegeaaRef
import Derived.Test.YtekhhjcbjaegeaaAM39
set_option linter.all false
set_option maxRecDepth 100000
set_option maxHeartbeats 400000
namespace Go.Proofs.Ytekhhjcbjaegeaa
open Go Go.AM
def altR (r : Int → Option (List Int)) (w t : Int) : Nat → Option (List Int)
  | 0 => match r (t - 1 * w) with
    | some y => some (1 :: y)
    | none => match r (t - 0 * w) with
      | some y => some (0 :: y)
      | none => match r (t - -1 * w) with
        | some y => some (-1 :: y)
        | none => none
  | 1 => match r (t - 0 * w) with
    | some y => some (0 :: y)
    | none => match r (t - -1 * w) with
      | some y => some (-1 :: y)
      | none => none
  | 2 => match r (t - -1 * w) with
    | some y => some (-1 :: y)
    | none => none
  | _ => none
theorem altR_some {r : Int → Option (List Int)} {w t : Int} {j : Nat} {y : List Int} (hj : j < 3) (h : r (t - (1 - (j : Int)) * w) = some y) : altR r w t j = some ((1 - (j : Int)) :: y) := by
  match j, hj, h with
  | 0, _, h => have h : r (t - 1 * w) = some y := h; simp only [altR, h]; rfl
  | 1, _, h => have h : r (t - 0 * w) = some y := h; simp only [altR, h]; rfl
  | 2, _, h => have h : r (t - -1 * w) = some y := h; simp only [altR, h]; rfl
theorem altR_none {r : Int → Option (List Int)} {w t : Int} {j : Nat} (hj : j < 3) (h : r (t - (1 - (j : Int)) * w) = none) : altR r w t j = altR r w t (j + 1) := by
  match j, hj, h with
  | 0, _, h => have h : r (t - 1 * w) = none := h; simp only [altR, h]
  | 1, _, h => have h : r (t - 0 * w) = none := h; simp only [altR, h]
  | 2, _, h => have h : r (t - -1 * w) = none := h; simp only [altR, h]
/-- The reference's weighing. -/
def refP : List Int → Int → Option (List Int)
  | [], t => if 0 < t ∨ t < 0 then none else some []
  | w :: ws, t => if (w :: ws).sum < t ∨ t < -(w :: ws).sum then none else altR (refP ws) w t 0
theorem refP_out {l : List Int} {t : Int} (h : l.sum < t ∨ t < -l.sum) : refP l t = none := by
  cases l with
  | nil => simp only [List.sum_nil, Int.neg_zero] at h; rw [refP, if_pos h]
  | cons w ws => rw [refP, if_pos h]
theorem refP_in {ws : List Int} {m : Nat} {t : Int} (hm : m < ws.length) (h : ¬ ((ws.drop m).sum < t ∨ t < -(ws.drop m).sum)) : refP (ws.drop m) t = altR (refP (ws.drop (m + 1))) (ws.getD m 0) t 0 := by
  rw [List.drop_eq_getElem_cons hm] at h ⊢
  rw [refP, if_neg h, gD hm]
theorem sum_step {ws : List Int} {m i : Nat} (hm : m ≤ i) (hi : i < ws.length) : ((ws.take (i + 1)).drop m).sum = ((ws.take i).drop m).sum + ws.getD i 0 := by
  rw [List.take_succ, List.getElem?_eq_getElem hi, Option.toList_some, List.drop_append_of_le_length (by rw [List.length_take]; omega), List.sum_append, gD hi]; simp
theorem sum_bound {ws : List Int} (hw : ∀ y ∈ ws, 0 ≤ y ∧ y ≤ 100000) {m : Nat} : ∀ i, i ≤ ws.length → m ≤ i → 0 ≤ ((ws.take i).drop m).sum ∧ ((ws.take i).drop m).sum ≤ 100000 * (i : Int) := by
  intro i
  induction i with
  | zero => intro _ _; simp
  | succ i ih =>
    intro h1 h2
    by_cases e : m = i + 1
    · subst e
      rw [List.drop_eq_nil_iff.2 (by rw [List.length_take]; omega)]; simp only [List.sum_nil]; omega
    · rw [sum_step (by omega) (by omega)]
      have := ih (by omega) (by omega)
      have := getD_bounds hw (show i < ws.length by omega)
      omega
theorem sum_start {ws : List Int} {m : Nat} (hm : m ≤ ws.length) : (0 : Int) = ((ws.take m).drop m).sum := by
  rw [List.drop_eq_nil_iff.2 (by rw [List.length_take]; omega)]; rfl
/-- What the reference's Pans answers. -/
def PansA (h : Heap) (v : Value) (x : List Int) : Option (List Int) → Prop
  | none => v = .slice none 0 0
  | some y => ∃ a, v = .slice (some a) (x ++ y).length (x ++ y).length ∧ Acc 0 h v (ivs (x ++ y))
theorem refpans_walk {c : Nat} {ad : Option Addr} {ws : List Int} (hn : ws.length ≤ 1000) (hw : ∀ y ∈ ws, 0 ≤ y ∧ y ≤ 100000) : ∀ (k N : Nat) (x : List Int) (total : Int) (h : Heap) (ax : Addr), x.length + k = ws.length → IntsA N h ad ws → Acc 0 h (.slice (some ax) x.length x.length) (ivs x) →
    CW Try.prog primW 26 [.slice ad ws.length c, .int .i64 total, .slice (some ax) x.length x.length] h fun v h' => Grow h h' ∧ PansA h' v x (refP (ws.drop x.length) total) := by
  intro k
  induction k with
  | zero =>
    intro N x total h ax hk hA hX
    have hA' := hA.top
    have K0 := KeepN.refl h.next h
    have hz0 : (0 : Nat) = 0 := rfl
    refine CW.intro (l := [(2, .slice (some ax) x.length x.length), (1, .int .i64 total), (0, .slice ad ws.length c)]) rfl Try.func26 rfl (by rfl) ?_
    refine W.rs ?_
    refine RG.step (Op1.assign (by rfl)) (by rfl) ?_
    refine RG.done ?_
    refine W.rs ?_
    refine RG.step (Op1.assign (by rfl)) (by rfl) ?_
    refine RG.done ?_
    refine W.seq ?_
    refine W.rs ?_
    refine RG.step (Op1.move (by rfl)) (by rfl) ?_
    refine RG.step (Op1.len Try.underlying22 (by rfl) (by rfl)) (by rfl) ?_
    refine RG.step (Op1.assign (by rfl)) (by rfl) ?_
    refine RG.done ?_
    refine W.block ?_
    refine W.loop (σ := Nat) (fun i a h2 => Has 64 [] [(0, .slice ad ws.length c), (1, .int .i64 total), (2, .slice (some ax) x.length x.length), (7, .int .i64 ((ws.take i).drop x.length).sum), (8, .int .i64 (i : Int))] a ∧ x.length ≤ i ∧ i ≤ ws.length ∧ h2 = h) (fun i => ws.length - i) ?_ (x.length) ?_
    · rintro i _ h2 ⟨⟨base, rfl⟩, hi1, hi2, e2⟩
      have e2 := e2.symm
      subst e2
      have hsb := sum_bound hw (m := x.length) i hi2 hi1
      refine W.seq ?_
      refine W.rs ?_
      refine RG.step (Op1.move (by rfl)) (by rfl) ?_
      refine RG.step (Op1.move (by rfl)) (by rfl) ?_
      refine RG.step (Op1.len Try.underlying22 (by rfl) (by rfl)) (by rfl) ?_
      refine RG.step (Op1.lss (by rfl) (by rfl)) (by rfl) ?_
      refine RG.done ?_
      refine W.cases 16 (by rfl) (fun c1 => ?_) (fun c1 => ?_)
      · refine W.condT (by rfl) ?_
        refine W.skip ?_
        refine W.seq ?_
        refine W.block ?_
        refine W.region ?_
        refine RG.step (Op1.move (by rfl)) (by rfl) ?_
        refine RG.step (Op1.move (by rfl)) (by rfl) ?_
        refine RG.step (Op1.move (by rfl)) (by rfl) ?_
        refine RG.step (Op1.idxI (hA'.keepN K0) Try.underlying22 sz3 (by rfl) (by rfl) (by omega) (by omega)) (by rfl) ?_
        refine RG.step (Op1.load agg3 (by rfl) ((hA'.keepN K0).at (by omega) (by omega))) (by rfl) ?_
        have hgb := getD_bounds hw (show ((i : Int)).toNat < ws.length by omega)
        refine RG.step (Op1.add (by rfl) (by rfl) (by omega)) (by rfl) ?_
        refine RG.tell (v := .int .i64 ((ws.take (i + 1)).drop x.length).sum) 24 (by rfl) (congrArg _ (sum_step hi1 (by omega)).symm) ?_
        refine RG.step (Op1.assign (by rfl)) (by rfl) ?_
        refine RG.done ?_
        refine W.region ?_
        refine RG.step (Op1.move (by rfl)) (by rfl) ?_
        refine RG.step (Op1.add (by rfl) (by rfl) (by omega)) (by rfl) ?_
        refine RG.step (Op1.assign (by rfl)) (by rfl) ?_
        refine RG.done ?_
        exact loopQ_next (i + 1) (by omega) ⟨St_has _ ⟨rfl, rfl, rfl, rfl, rfl, trivial⟩, by omega, by omega, rfl⟩
      · refine W.condF (by rfl) ?_
        refine W.exit ?_
        refine W.seq ?_
        refine W.rs ?_
        refine RG.step (Op1.move (by rfl)) (by rfl) ?_
        refine RG.step (Op1.move (by rfl)) (by rfl) ?_
        refine RG.step (Op1.gtr (by rfl) (by rfl)) (by rfl) ?_
        refine RG.step (Op1.move (by rfl)) (by rfl) ?_
        refine RG.cases 28 (by rfl) (fun c2 => ?_) (fun c2 => ?_)
        · refine RG.not (by rfl) (by rfl) (by rfl) (by rfl) ?_
          refine RG.not (by rfl) (by rfl) (by rfl) (by rfl) ?_
          refine RG.not (by rfl) (by rfl) (by rfl) (by rfl) ?_
          refine RG.not (by rfl) (by rfl) (by rfl) (by rfl) ?_
          refine RG.step (Op1.pickT (by rfl) (by rfl)) (by rfl) ?_
          refine RG.done ?_
          refine W.condT (by rfl) ?_
          refine W.rs ?_
          refine RG.step (Op1.assign (by rfl)) (by rfl) ?_
          refine RG.done ?_
          refine W.ret ?_
          refine leaf1 rfl (by rfl) ⟨K0.grow, ?_⟩
          obtain rfl : i = ws.length := by omega
          rw [List.take_length] at *
          rw [refP_out (by omega)]
          exact rfl
        · refine RG.gd (by rfl) (by rfl) (Op1.move (by rfl)) (by rfl) ?_
          refine RG.gd (by rfl) (by rfl) (Op1.move (by rfl)) (by rfl) ?_
          refine RG.gd (by rfl) (by rfl) (Op1.neg (by rfl) (by omega)) (by rfl) ?_
          refine RG.gd (by rfl) (by rfl) (Op1.lss (by rfl) (by rfl)) (by rfl) ?_
          refine RG.step (Op1.pickF (by rfl) (by rfl)) (by rfl) ?_
          refine RG.done ?_
          refine W.cases 33 (by rfl) (fun c3 => ?_) (fun c3 => ?_)
          · refine W.condT (by rfl) ?_
            refine W.rs ?_
            refine RG.step (Op1.assign (by rfl)) (by rfl) ?_
            refine RG.done ?_
            refine W.ret ?_
            refine leaf1 rfl (by rfl) ⟨K0.grow, ?_⟩
            obtain rfl : i = ws.length := by omega
            rw [List.take_length] at *
            rw [refP_out (by omega)]
            exact rfl
          · refine W.condF (by rfl) ?_
            refine W.skip ?_
            refine W.seq ?_
            refine W.rs ?_
            refine RG.step (Op1.move (by rfl)) (by rfl) ?_
            refine RG.step (Op1.len Try.underlying22 (by rfl) (by rfl)) (by rfl) ?_
            refine RG.step (Op1.move (by rfl)) (by rfl) ?_
            refine RG.step (Op1.len Try.underlying22 (by rfl) (by rfl)) (by rfl) ?_
            refine RG.step (Op1.eql (by rfl) (by rfl)) (by rfl) ?_
            refine RG.done ?_
            refine W.yes 38 (by rfl) (decide_eq_true (by omega)) ?_
            refine W.condT (by rfl) ?_
            refine W.rs ?_
            refine RG.step (Op1.move (by rfl)) (by rfl) ?_
            refine RG.step (Op1.assign (by rfl)) (by rfl) ?_
            refine RG.done ?_
            refine W.ret ?_
            refine leaf1 rfl (by rfl) ⟨K0.grow, ?_⟩
            obtain rfl : i = ws.length := by omega
            rw [List.take_length] at *
            have hd : ws.drop x.length = [] := List.drop_eq_nil_iff.2 (by omega)
            have hs0 : (ws.drop x.length).sum = 0 := by rw [hd]; rfl
            rw [hd, refP, if_neg (by omega)]
            exact ⟨ax, by rw [List.append_nil], by rw [List.append_nil]; exact hX⟩
    · exact ⟨St_has _ ⟨rfl, rfl, rfl, congrArg some (congrArg (Value.int .i64) (sum_start (by omega))), rfl, trivial⟩, Nat.le_refl _, by omega, rfl⟩
  | succ k ih =>
    intro N x total h ax hk hA hX
    have hA' := hA.top
    have K0 := KeepN.refl h.next h
    refine CW.intro (l := [(2, .slice (some ax) x.length x.length), (1, .int .i64 total), (0, .slice ad ws.length c)]) rfl Try.func26 rfl (by rfl) ?_
    refine W.rs ?_
    refine RG.step (Op1.assign (by rfl)) (by rfl) ?_
    refine RG.done ?_
    refine W.rs ?_
    refine RG.step (Op1.assign (by rfl)) (by rfl) ?_
    refine RG.done ?_
    refine W.seq ?_
    refine W.rs ?_
    refine RG.step (Op1.move (by rfl)) (by rfl) ?_
    refine RG.step (Op1.len Try.underlying22 (by rfl) (by rfl)) (by rfl) ?_
    refine RG.step (Op1.assign (by rfl)) (by rfl) ?_
    refine RG.done ?_
    refine W.block ?_
    refine W.loop (σ := Nat) (fun i a h2 => Has 64 [] [(0, .slice ad ws.length c), (1, .int .i64 total), (2, .slice (some ax) x.length x.length), (7, .int .i64 ((ws.take i).drop x.length).sum), (8, .int .i64 (i : Int))] a ∧ x.length ≤ i ∧ i ≤ ws.length ∧ h2 = h) (fun i => ws.length - i) ?_ (x.length) ?_
    · rintro i _ h2 ⟨⟨base, rfl⟩, hi1, hi2, e2⟩
      have e2 := e2.symm
      subst e2
      have hsb := sum_bound hw (m := x.length) i hi2 hi1
      refine W.seq ?_
      refine W.rs ?_
      refine RG.step (Op1.move (by rfl)) (by rfl) ?_
      refine RG.step (Op1.move (by rfl)) (by rfl) ?_
      refine RG.step (Op1.len Try.underlying22 (by rfl) (by rfl)) (by rfl) ?_
      refine RG.step (Op1.lss (by rfl) (by rfl)) (by rfl) ?_
      refine RG.done ?_
      refine W.cases 16 (by rfl) (fun c1 => ?_) (fun c1 => ?_)
      · refine W.condT (by rfl) ?_
        refine W.skip ?_
        refine W.seq ?_
        refine W.block ?_
        refine W.region ?_
        refine RG.step (Op1.move (by rfl)) (by rfl) ?_
        refine RG.step (Op1.move (by rfl)) (by rfl) ?_
        refine RG.step (Op1.move (by rfl)) (by rfl) ?_
        refine RG.step (Op1.idxI (hA'.keepN K0) Try.underlying22 sz3 (by rfl) (by rfl) (by omega) (by omega)) (by rfl) ?_
        refine RG.step (Op1.load agg3 (by rfl) ((hA'.keepN K0).at (by omega) (by omega))) (by rfl) ?_
        have hgb := getD_bounds hw (show ((i : Int)).toNat < ws.length by omega)
        refine RG.step (Op1.add (by rfl) (by rfl) (by omega)) (by rfl) ?_
        refine RG.tell (v := .int .i64 ((ws.take (i + 1)).drop x.length).sum) 24 (by rfl) (congrArg _ (sum_step hi1 (by omega)).symm) ?_
        refine RG.step (Op1.assign (by rfl)) (by rfl) ?_
        refine RG.done ?_
        refine W.region ?_
        refine RG.step (Op1.move (by rfl)) (by rfl) ?_
        refine RG.step (Op1.add (by rfl) (by rfl) (by omega)) (by rfl) ?_
        refine RG.step (Op1.assign (by rfl)) (by rfl) ?_
        refine RG.done ?_
        exact loopQ_next (i + 1) (by omega) ⟨St_has _ ⟨rfl, rfl, rfl, rfl, rfl, trivial⟩, by omega, by omega, rfl⟩
      · refine W.condF (by rfl) ?_
        refine W.exit ?_
        refine W.seq ?_
        refine W.rs ?_
        refine RG.step (Op1.move (by rfl)) (by rfl) ?_
        refine RG.step (Op1.move (by rfl)) (by rfl) ?_
        refine RG.step (Op1.gtr (by rfl) (by rfl)) (by rfl) ?_
        refine RG.step (Op1.move (by rfl)) (by rfl) ?_
        refine RG.cases 28 (by rfl) (fun c2 => ?_) (fun c2 => ?_)
        · refine RG.not (by rfl) (by rfl) (by rfl) (by rfl) ?_
          refine RG.not (by rfl) (by rfl) (by rfl) (by rfl) ?_
          refine RG.not (by rfl) (by rfl) (by rfl) (by rfl) ?_
          refine RG.not (by rfl) (by rfl) (by rfl) (by rfl) ?_
          refine RG.step (Op1.pickT (by rfl) (by rfl)) (by rfl) ?_
          refine RG.done ?_
          refine W.condT (by rfl) ?_
          refine W.rs ?_
          refine RG.step (Op1.assign (by rfl)) (by rfl) ?_
          refine RG.done ?_
          refine W.ret ?_
          refine leaf1 rfl (by rfl) ⟨K0.grow, ?_⟩
          obtain rfl : i = ws.length := by omega
          rw [List.take_length] at *
          rw [refP_out (by omega)]
          exact rfl
        · refine RG.gd (by rfl) (by rfl) (Op1.move (by rfl)) (by rfl) ?_
          refine RG.gd (by rfl) (by rfl) (Op1.move (by rfl)) (by rfl) ?_
          refine RG.gd (by rfl) (by rfl) (Op1.neg (by rfl) (by omega)) (by rfl) ?_
          refine RG.gd (by rfl) (by rfl) (Op1.lss (by rfl) (by rfl)) (by rfl) ?_
          refine RG.step (Op1.pickF (by rfl) (by rfl)) (by rfl) ?_
          refine RG.done ?_
          refine W.cases 33 (by rfl) (fun c3 => ?_) (fun c3 => ?_)
          · refine W.condT (by rfl) ?_
            refine W.rs ?_
            refine RG.step (Op1.assign (by rfl)) (by rfl) ?_
            refine RG.done ?_
            refine W.ret ?_
            refine leaf1 rfl (by rfl) ⟨K0.grow, ?_⟩
            obtain rfl : i = ws.length := by omega
            rw [List.take_length] at *
            rw [refP_out (by omega)]
            exact rfl
          · refine W.condF (by rfl) ?_
            refine W.skip ?_
            refine W.seq ?_
            refine W.rs ?_
            refine RG.step (Op1.move (by rfl)) (by rfl) ?_
            refine RG.step (Op1.len Try.underlying22 (by rfl) (by rfl)) (by rfl) ?_
            refine RG.step (Op1.move (by rfl)) (by rfl) ?_
            refine RG.step (Op1.len Try.underlying22 (by rfl) (by rfl)) (by rfl) ?_
            refine RG.step (Op1.eql (by rfl) (by rfl)) (by rfl) ?_
            refine RG.done ?_
            refine W.no 38 (by rfl) (decide_eq_false (by omega)) ?_
            refine W.condF (by rfl) ?_
            refine W.skip ?_
            refine W.seq ?_
            refine W.rs ?_
            refine RG.step (Op1.assign (by rfl)) (by rfl) ?_
            refine RG.done ?_
            refine W.block ?_
            refine W.loop (σ := Nat) (fun j a h3 => Has 64 [] [(0, .slice ad ws.length c), (1, .int .i64 total), (2, .slice (some ax) x.length x.length), (9, .int .i64 (1 - (j : Int)))] a ∧ j ≤ 3 ∧ KeepN h.next h h3 ∧ refP (ws.drop x.length) total = altR (refP (ws.drop (x.length + 1))) (ws.getD x.length 0) total j) (fun j => 3 - j) ?_ (0) ?_
            · rintro j _ h3 ⟨⟨base, rfl⟩, hj3, hK3, hr⟩
              have nK3 := hK3.next
              have hX3 := hX.grow hK3.grow
              refine W.seq ?_
              refine W.rs ?_
              refine RG.step (Op1.move (by rfl)) (by rfl) ?_
              refine RG.step (Op1.geq (by rfl) (by rfl)) (by rfl) ?_
              refine RG.done ?_
              refine W.cases 41 (by rfl) (fun c4 => ?_) (fun c4 => ?_)
              · refine W.condT (by rfl) ?_
                refine W.skip ?_
                refine W.seq ?_
                refine W.block ?_
                refine W.ds (σ := [0, 1, 2, 3, 4, 5, 6, 7, 8, 9, 10, 11, 13, 14, 12, 15, 16, 17]) (by kernel_rfl) (by kernel_rfl) ?_
                refine RD.pure (by rfl) (by rfl) GOK.no (Op1.move (by rfl)) (by rfl) ?_
                refine RD.pure (by rfl) (by rfl) GOK.no (Op1.move (by rfl)) (by rfl) ?_
                refine RD.pure (by rfl) (by rfl) GOK.no (Op1.move (by rfl)) (by rfl) ?_
                refine RD.pure (by rfl) (by rfl) GOK.no (Op1.move (by rfl)) (by rfl) ?_
                refine RD.pure (by rfl) (by rfl) GOK.no (Op1.move (by rfl)) (by rfl) ?_
                refine RD.read (C := fun _ => True) (by rfl) (by rfl) (by rfl) GOK.no (fun _ hC => Op1.len Try.underlying22 (by rfl) (by rfl)) (True.intro) (simple_of (by rfl)) (by rfl) ?_
                refine RD.pure (by rfl) (by rfl) GOK.no (Op1.idxI (hA'.keepN hK3) Try.underlying22 sz3 (by rfl) (by rfl) (by omega) (by omega)) (by rfl) ?_
                refine RD.read (C := fun h => cellAt h _ _ = some _) (by rfl) (by rfl) (by rfl) GOK.no (fun _ hC => Op1.load agg3 (by rfl) hC) ((hA'.keepN hK3).at (by omega) (by omega)) (simple_of (by rfl)) (by rfl) ?_
                have hmul : -100000 ≤ (1 - (j : Int)) * ws.getD ((x.length : Int)).toNat 0 ∧ (1 - (j : Int)) * ws.getD ((x.length : Int)).toNat 0 ≤ 100000 := by
                  have hgb := getD_bounds hw (show ((x.length : Int)).toNat < ws.length by omega)
                  rcases (show (1 - (j : Int)) = 1 ∨ (1 - (j : Int)) = 0 ∨ (1 - (j : Int)) = -1 by omega) with e | e | e <;> rw [e] <;> omega
                refine RD.pure (by rfl) (by rfl) GOK.no (Op1.mul (by rfl) (by rfl) (by omega)) (by rfl) ?_
                refine RD.pure (by rfl) (by rfl) GOK.no (Op1.sub (by rfl) (by rfl) (by omega)) (by rfl) ?_
                refine RD.make (by rfl) (by rfl) (by rfl) GOK.no (Op1.lit0 Try.underlying22 sz3 zero3 rfl rfl) (by rfl) ?_
                refine RD.abs fun h5 n5 e5 g5 => ?_
                have K6 := hK3.trans (g5.keepN hK3.next)
                have lte5 := Heap.get_lt e5
                
                refine RD.pure (by rfl) (by rfl) GOK.no (Op1.move (by rfl)) (by rfl) ?_
                refine RD.pure (by rfl) (by rfl) GOK.no (Op1.move (by rfl)) (by rfl) ?_
                refine RD.make (by rfl) (by rfl) (by rfl) GOK.no (Op1.lit1 Try.underlying22 sz3 zero3 rfl rfl (by rfl) rfl) (by rfl) ?_
                refine RD.abs fun h7 n7 e7 g7 => ?_
                have e8 := g7.get e5
                have K9 := K6.trans (g7.keepN K6.next)
                have lte7 := Heap.get_lt e7
                
                refine RD.appG (m := 3072) (pend2 := [_, _]) (by rfl) (by rfl) GOK.no (by kernel_rfl) (by rfl) (fun _ => by rfl) Try.underlying22 Try.underlying22 one3 (by rfl) ((Acc.lit0 (N := h3.next) (Nat.le_refl _) e8)) (AccC.lit0 e8) (by rfl) ((hX.grow K9.grow).src) (ivs_all _) (by omega) (by rw [ivs_len]; simp; omega) (fun h1 kk => by exact And.intro ((hA'.keepN (K9.trans ((kk.keepN (Nat.le_refl _)).less (by omega)))).at (by omega) (by omega)) (And.intro (True.intro) (True.intro))) fun s10 h10 a10 g10 n10 => ?_
                have k10 := g10.keepN (Nat.le_refl _)
                have nx10 := k10.next
                have e11 := k10.get (by omega) e8
                have e12 := k10.get (by omega) e7
                have K13 := K9.trans (k10.less (by omega))
                refine RD.app (m := 31744) (pend2 := [_, _]) (by rfl) (by kernel_rfl) GOK.no (by kernel_rfl) (by rfl) (fun _ => by rfl) Try.underlying22 Try.underlying22 one3 (by rfl) (a10) (by rfl) (Src.one e12) (rfl) (by omega) (by simp [ivs_len]; omega) (fun h1 kk => by exact And.intro ((hA'.keepN (K13.trans (kk.less (by omega)))).at (by omega) (by omega)) (And.intro (True.intro) (True.intro))) fun s14 h14 a14 k14 n14 => ?_
                have nx14 := k14.next
                have K15 := K13.trans (k14.less (by omega))
                have hX4 : Acc h3.next h14 s14 (ivs (x ++ [1 - (j : Int)])) := by rw [ivs_app]; exact a14
                obtain ⟨ax4, rfl⟩ := hX4.some (by simp [ivs])
                rw [ivs_len] at hX4 ⊢
                refine RD.call (m := 65535) (pend2 := []) (by rfl) (by kernel_rfl) GOK.no (by kernel_rfl) (by rfl) (fun _ => by rfl) (by rfl) (by exact ih _ (x ++ [1 - (j : Int)]) _ _ ax4 (by simp; omega) (hA'.keepN K15) (hX4.less (Nat.zero_le _))) (by rintro v6 h6 ⟨g6, hv6⟩; exact ⟨g6.next, True.intro⟩) ?_
                rintro v6 h6 ⟨g6, hv6⟩
                have K16 := K15.trans (g6.keepN K15.next)
                
                refine RD.pure (by rfl) (by rfl) GOK.no (Op1.assign (by rfl)) (by rfl) ?_
                refine RD.done ?_
                refine W.rs ?_
                refine RG.step (Op1.move (by rfl)) (by rfl) ?_
                rcases hq : refP (ws.drop (x.length + 1)) (total - (1 - (j : Int)) * ws.getD x.length 0) with _ | y
                · have hv6 : PansA h6 v6 (x ++ [1 - (j : Int)]) none := by rw [← hq]; simpa using hv6
                  obtain rfl : v6 = .slice none 0 0 := hv6
                  refine RG.step (Op1.neNil Try.underlying22 (by rfl) (by rfl)) (by rfl) ?_
                  refine RG.done ?_
                  refine W.condF (by rfl) ?_
                  refine W.skip ?_
                  refine W.region ?_
                  refine RG.step (Op1.move (by rfl)) (by rfl) ?_
                  refine RG.step (Op1.sub (by rfl) (by rfl) (by omega)) (by rfl) ?_
                  refine RG.tell (v := .int .i64 (1 - ((j + 1 : Nat) : Int))) 43 (by rfl) (congrArg _ (by omega)) ?_
                  refine RG.step (Op1.assign (by rfl)) (by rfl) ?_
                  refine RG.done ?_
                  exact loopQ_next (j + 1) (by omega) ⟨St_has _ ⟨rfl, rfl, rfl, rfl, trivial⟩, by omega, K16, by rw [hr, altR_none (by omega) hq]⟩
                · have hv6 : PansA h6 v6 (x ++ [1 - (j : Int)]) (some y) := by rw [← hq]; simpa using hv6
                  obtain ⟨a, rfl, hS6⟩ := hv6
                  refine RG.step (Op1.neNil Try.underlying22 (by rfl) (by rfl)) (by rfl) ?_
                  refine RG.done ?_
                  refine W.condT (by rfl) ?_
                  refine W.rs ?_
                  refine RG.step (Op1.move (by rfl)) (by rfl) ?_
                  refine RG.step (Op1.assign (by rfl)) (by rfl) ?_
                  refine RG.done ?_
                  refine W.ret ?_
                  refine leaf1 rfl (by rfl) ⟨K16.grow, ?_⟩
                  rw [hr, altR_some (by omega) hq]
                  have e2 : x ++ (1 - (j : Int)) :: y = (x ++ [1 - (j : Int)]) ++ y := by simp
                  exact ⟨a, by rw [e2], by rw [e2]; exact hS6⟩
              · refine W.condF (by rfl) ?_
                refine W.exit ?_
                refine W.rs ?_
                refine RG.step (Op1.assign (by rfl)) (by rfl) ?_
                refine RG.done ?_
                refine W.ret ?_
                refine leaf1 rfl (by rfl) ⟨hK3.grow, ?_⟩
                obtain rfl : j = 3 := by omega
                rw [hr]
                exact rfl
            · obtain rfl : i = ws.length := by omega
              rw [List.take_length] at *
              exact ⟨St_has _ ⟨rfl, rfl, rfl, rfl, trivial⟩, by omega, KeepN.refl _ _, refP_in (by omega) (by omega)⟩
    · exact ⟨St_has _ ⟨rfl, rfl, rfl, congrArg some (congrArg (Value.int .i64) (sum_start (by omega))), rfl, trivial⟩, Nat.le_refl _, by omega, rfl⟩
end Go.Proofs.Ytekhhjcbjaegeaa
