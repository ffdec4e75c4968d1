/- Rounds of loops over functions, and code as a whole. -/
import Derived.Test.YtekhhjcbjaegeaaAM14
set_option linter.all false
namespace Go.AM
open Go
variable {P : Program}

/-- A loop's record, and what it may become. -/
theorem loop_at {ρ : Rho} {h : Heap} {w : World} (H : HR ρ h w) {l L : Nat} {st : LoopState} {p : Option Code} {tr : Tr Value} {sz : Nat} {ps : Array Tmp} {asg body : Code} {mk : Nat}
    (hg : h.get l = some (.loop st p tr sz ps asg body mk)) (hρ : ρ l = some (L, 0)) :
    ∃ r : Loop, w.heap[L]? = some (.loop r) ∧ r.state = st ∧ r.pending = p ∧ r.tmps.size = sz ∧ TR ρ tr r.tmps ∧ r.params = ps ∧ r.assign = asg ∧ r.body = body ∧ ρ mk = some (r.defers, 0) ∧
      ∀ st' p', HR ρ (h.put l (some (.loop st' p' tr sz ps asg body mk))) (w.putObj L (.loop { r with state := st', pending := p' })) ∧
        Ext ρ h w ρ (h.put l (some (.loop st' p' tr sz ps asg body mk))) (w.putObj L (.loop { r with state := st', pending := p' })) := by
  obtain ⟨_, r, e, a1, a2, a3, a4, a5, a6, a7, a8⟩ := H.blk l L 0 _ hg hρ
  have hlt := H.lt _ _ _ hρ
  refine ⟨r, e, a1, a2, a3, a4, a5, a6, a7, a8, fun st' p' => ?_⟩
  refine H.upd (by rw [hg]; simp) hρ (fun k hk => World.putObj_heap_other hk) (by simp) rfl rfl rfl ?_ (fun off => by rw [World.putObj_heap_same hlt, e]; rfl)
  rw [World.putObj_heap_same hlt]
  exact ⟨rfl, _, rfl, rfl, rfl, a3, a4, a5, a6, a7, a8⟩

theorem setL_sound {ρ : Rho} : ∀ (l l' : List (Tmp × Value)) (tr tr' : Tr Value) (sz : Nat) (tmps : Array Value), setL tr sz l = some tr' → l.length = l'.length → (∀ (i : Nat) (p : Tmp × Value), l[i]? = some p → ∃ p', l'[i]? = some p' ∧ p.1 = p'.1 ∧ VR ρ p.2 p'.2) →
    TR ρ tr tmps → tmps.size = sz → TR ρ tr' (l'.foldl (fun t p => t.setIfInBounds p.1 p.2) tmps) ∧ (l'.foldl (fun t p => t.setIfInBounds p.1 p.2) tmps).size = sz := by
  intro l
  induction l with
  | nil =>
    intro l' tr tr' sz tmps e hl hv ht hs
    cases l' with
    | nil => simp only [setL, Option.some.injEq] at e; subst e; exact ⟨ht, hs⟩
    | cons _ _ => simp at hl
  | cons p l ih =>
    intro l' tr tr' sz tmps e hl hv ht hs
    cases l' with
    | nil => simp at hl
    | cons p' l' =>
      obtain ⟨t, v⟩ := p
      obtain ⟨t', v'⟩ := p'
      obtain ⟨q, e1, e2, e3⟩ := hv 0 _ rfl
      simp only [List.getElem?_cons_zero, Option.some.injEq] at e1
      subst e1
      simp only at e2 e3
      subst e2
      simp only [setL] at e
      cases hb : Nat.blt t sz with
      | false => rw [hb] at e; cases e
      | true =>
        rw [hb] at e
        simp only [cond_true] at e
        rw [Nat.blt_eq] at hb
        rw [List.foldl_cons]
        refine ih l' _ tr' sz _ e (by simpa using hl) (fun i p hp => by simpa using hv (i + 1) p (by simpa using hp)) ?_ (by simp [hs])
        intro i
        rw [Tr.get_set]
        by_cases hi : i = t
        · subst hi
          have : (tmps.setIfInBounds i v').getD i undef = v' := by simp [Array.getD_eq_getD_getElem?, hs, hb]
          rw [this, if_pos rfl]; exact e3
        · have : (tmps.setIfInBounds t v').getD i undef = tmps.getD i undef := by
            simp [Array.getD_eq_getD_getElem?, Array.getElem?_setIfInBounds_ne (Ne.symm hi)]
          rw [this, if_neg hi]; exact ht i

theorem zip_rel {ρ : Rho} : ∀ (ps : List Tmp) (x x' : List Value), VRl ρ x x' → ps.length = x.length → (ps.zip x).length = (ps.zip x').length ∧
    ∀ (i : Nat) (p : Tmp × Value), (ps.zip x)[i]? = some p → ∃ p', (ps.zip x')[i]? = some p' ∧ p.1 = p'.1 ∧ VR ρ p.2 p'.2 := by
  intro ps x x' h hl
  refine ⟨by simp [h.1], fun i p e => ?_⟩
  rw [List.getElem?_zip_eq_some] at e
  obtain ⟨e1, e2⟩ := e
  obtain ⟨v', e3, r⟩ := h.2 i _ e2
  exact ⟨(p.1, v'), by rw [List.getElem?_zip_eq_some]; exact ⟨e1, e3⟩, rfl, r⟩

theorem yield_ok {rec : Rec} (hR : RecOK P rec) : ∀ l args h v h', yieldF rec l args h = some (v, h') → YieldOK P l args h v h' := by
  intro l args h v h' e ρ w args' L H hv hL
  unfold yieldF at e
  split at e
  next p tr sz ps asg body mk hg =>
    cases hn : Nat.beq args.length ps.size with
    | false => rw [hn] at e; cases e
    | true =>
      rw [hn] at e
      simp only [cond_true, Option.bind_eq_some_iff] at e
      have hn' : args.length = ps.size := Nat.eq_of_beq_eq_true hn
      obtain ⟨tr', hset, ⟨x, a1, h1⟩, hasg, e⟩ := e
      obtain ⟨r, hr, r1, r2, r3, r4, r5, r6, r7, r8, _⟩ := loop_at H hg hL
      have hz := zip_rel ps.toList args args' hv (by simp [hn'])
      obtain ⟨hT, hS⟩ := setL_sound _ _ _ _ _ r.tmps hset hz.1 hz.2 r4 r3
      have hyield := run_yield (P := P) (args := args'.toArray) hr (by simp [r5, ← hv.1, hn'])
      refine ⟨_, _, _, _, hyield, ?_⟩
      refine roundIn_of_wpIn trivial ?_
      have hfold : ((r.params.zip args'.toArray).foldl (fun tmps (t, a) => tmps.setIfInBounds t a) r.tmps) = (ps.toList.zip args').foldl (fun t p => t.setIfInBounds p.1 p.2) r.tmps := by
        rw [← Array.foldl_toList, r5]
        simp
      rw [hfold, r6, r7]
      cases x with
      | normal =>
        simp only at e
        split at e
        next p1 tr1 sz1 ps1 asg1 body1 mk1 hg1 =>
          simp only [Option.bind_eq_some_iff] at e
          obtain ⟨⟨x2, a2, h2⟩, hbody, e⟩ := e
          simp only at e
          split at e
          next st2 p2 tr2 sz2 ps2 asg2 body2 mk2 hg2 =>
            simp only [Option.some.injEq, Prod.mk.injEq] at e
            obtain ⟨rfl, rfl⟩ := e
            refine hR _ _ _ _ _ _ _ hasg (some L) ρ w _ _ H ⟨hS, hT, rfl⟩ hL ?_
            intro ρ1 b1 w1 H1 R1 E1
            obtain ⟨q, hq, q1, q2, q3, q4, q5, q6, q7, q8, hup⟩ := loop_at H1 hg1 (E1.le.m _ _ hL)
            obtain ⟨H1', E1'⟩ := hup .busy q.pending
            rw [q2] at H1' E1'
            refine ⟨_, run_beginRound hq q1, ?_⟩
            have hw : (w1.putObj L (.loop { q with state := .busy, pending := p1 })) = (w1.putObj L (.loop { q with state := .busy })) := by rw [← q2]
            rw [hw] at H1' E1'
            refine hR _ _ _ _ _ _ _ hbody (some L) ρ1 _ _ _ H1' R1 (E1.le.m _ _ hL) ?_
            intro ρ2 b2 w2 H2 R2 E2
            obtain ⟨u, hu, u1, u2, u3, u4, u5, u6, u7, u8, hup2⟩ := loop_at H2 hg2 (E2.le.m _ _ (E1.le.m _ _ hL))
            cases x2 with
            | normal =>
              obtain ⟨H3, E3⟩ := hup2 .ready none
              exact ⟨_, _, run_endRound none hu, ρ2, _, rfl, .fl rfl, H3, E1.trans (E1'.trans (E2.trans E3))⟩
            | ret =>
              obtain ⟨H3, E3⟩ := hup2 .done (some .ret)
              exact ⟨_, _, run_endRound (some .ret) hu, ρ2, _, rfl, .fl rfl, H3, E1.trans (E1'.trans (E2.trans E3))⟩
            | exit i =>
              obtain ⟨H3, E3⟩ := hup2 .done (some (.exit i))
              exact ⟨_, _, run_endRound (some (.exit i)) hu, ρ2, _, rfl, .fl rfl, H3, E1.trans (E1'.trans (E2.trans E3))⟩
            | goto t =>
              obtain ⟨H3, E3⟩ := hup2 .done (some (.goto t))
              exact ⟨_, _, run_endRound (some (.goto t)) hu, ρ2, _, rfl, .fl rfl, H3, E1.trans (E1'.trans (E2.trans E3))⟩
          all_goals cases e
        all_goals cases e
      | _ => cases e
  all_goals cases e
end Go.AM
