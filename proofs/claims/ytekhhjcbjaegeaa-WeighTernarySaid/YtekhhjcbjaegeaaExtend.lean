/- Walks: Clip, extend. -/
import Derived.Test.YtekhhjcbjaegeaaBasic
import Derived.Test.YtekhhjcbjaegeaaAM36
set_option linter.all false
set_option maxRecDepth 100000
set_option maxHeartbeats 4000000
namespace Go.Proofs.Ytekhhjcbjaegeaa
open Go Go.AM
theorem clip_walk {N : Nat} {h : Heap} {s : Value} {vs : List Value} (hA : Acc N h s vs) : CW Try.prog primW 75 [s] h fun v h' => v = clipV s ∧ h' = h := by
  obtain ⟨ad, rfl⟩ := hA.val
  refine CW.intro (l := [(0, .slice ad vs.length vs.length)]) rfl Try.func75 rfl (by rfl) ?_
  refine W.rs ?_
  refine RG.step (Op1.assign (by rfl)) (by rfl) ?_
  refine RG.done ?_
  refine W.rs ?_
  refine RG.step (Op1.move (by rfl)) (by rfl) ?_
  refine RG.step (Op1.move (by rfl)) (by rfl) ?_
  refine RG.step (Op1.len Try.underlying22 (by rfl) (by rfl)) (by rfl) ?_
  refine RG.step (Op1.move (by rfl)) (by rfl) ?_
  refine RG.step (Op1.len Try.underlying22 (by rfl) (by rfl)) (by rfl) ?_
  refine RG.step (Op1.clip Try.underlying22 sz3 (by rfl) hA (by rfl) (by rfl) rfl rfl) (by rfl) ?_
  refine RG.step (Op1.assign (by rfl)) (by rfl) ?_
  refine RG.done ?_
  refine W.ret ?_
  exact leaf1 rfl (by rfl) ⟨rfl, rfl⟩
/-! ### Subsets, in lexicographic order -/
abbrev Item := List Int × Int
def subsF : List Int → Int → Item → List Item
  | [], _, _ => []
  | x :: w, i, s => (s.1 ++ [i], s.2 + x) :: (subsF w (i + 1) (s.1 ++ [i], s.2 + x) ++ subsF w (i + 1) s)
def subsE (w : List Int) (i : Int) (s : Item) : List Item := s :: subsF w i s
/-- A subset as a value. -/
def RepS (N : Nat) (h : Heap) (v : Value) (x : Item) : Prop := ∃ s, v = .agg #[s, .int .i64 x.2] ∧ Acc N h s (ivs x.1)
theorem build68 {s : Value} {m : Int} (hs : s.cells = #[s]) : abuild Try.prog 68 [(0, s), (1, .int .i64 m)] = some (.agg #[s, .int .i64 m]) := by
  have hp : (Try.prog.underlying 68).bind (fun u => match u with | .struct fs => placesOf Try.prog fs | _ => none) = some [(0, 1), (1, 1)] := by kernel_rfl
  rw [Try.underlying68] at hp
  simp only [Option.bind_some] at hp
  unfold abuild
  simp only [zero68, Option.bind_some, Try.underlying68, hp]
  have : fillL (fun x => [(0, 1), (1, 1)][x]?) (Value.agg #[.slice none 0 0, .int .i64 0]).cells.toList [(0, s), (1, .int .i64 m)] = some [s, .int .i64 m] := by
    simp only [fillL, hs, List.getElem?_cons_zero, List.getElem?_cons_succ, Option.bind_some]
    rfl
  have hf : flat (.agg #[.slice none 0 0, .int .i64 0]) = true := by kernel_rfl
  rw [this, hf]; rfl
theorem Op1.build68 {base : Tr Value} {n : Nat} {ms : List Nat} {l : Env} {h : Heap} {d : Option Tmp} {ty : TypeId} {pos : String} {after : Array Edge} {g : Option (Nat × Bool)} {x y : Operand} {s : Value} {m : Int} (hx : ev l x = some s) (hy : ev l y = some (.int .i64 m)) (hs : s.cells = #[s]) :
    Op1 Try.prog primW ⟨d, .build 68 #[(0, x), (1, y)], ty, pos, after, g⟩ (St base n ms l) h (.agg #[s, .int .i64 m]) h :=
  .of (by simp only [AM.aop, aparts, ev_eval hx, ev_eval hy, Option.bind_some, Option.map_some, Proofs.Ytekhhjcbjaegeaa.build68 hs])
theorem sub_step {w : List Int} {j : Nat} {x : Item} (hj : j < w.length) : subsF (w.drop j) (j : Int) x = subsE (w.drop (j + 1)) ((j + 1 : Nat) : Int) (x.1 ++ [(j : Int)], x.2 + w.getD (j : Int).toNat 0) ++ subsF (w.drop (j + 1)) ((j + 1 : Nat) : Int) x := by
  rw [List.drop_eq_getElem_cons hj, Int.toNat_natCast, gD hj]; rfl
theorem acc_snoc {N b : Nat} {h : Heap} {xs : List Int} {j : Int} (hN : N ≤ b) (hg : h.get b = some (.cells (ivs xs ++ [.int .i64 j]))) : Acc N h (.slice (some ⟨b, 0, some 1⟩) ((ivs xs).length + [Value.int .i64 j].length) ((ivs xs).length + [Value.int .i64 j].length)) (ivs (xs ++ [j])) := by
  have e : ivs (xs ++ [j]) = ivs xs ++ [.int .i64 j] := by simp [ivs]
  rw [e]
  exact .inr ⟨b, some 1, by rw [List.length_append], hN, hg, .inr rfl⟩
theorem last_eq {xs : List Int} {i : Int} (h : ∀ y, xs.getLast? = some y → y + 1 = i) (hl : 0 < (xs.length : Int)) : xs.getD ((xs.length : Int) - 1).toNat 0 + 1 = i := by
  have hl' : xs.length - 1 < xs.length := by omega
  refine h _ ?_
  rw [show ((xs.length : Int) - 1).toNat = xs.length - 1 from by omega, gD hl', List.getLast?_eq_getElem?, List.getElem?_eq_getElem hl']
theorem sub_end {w : List Int} {j : Nat} {x : Item} (hj : w.length ≤ j) : subsF (w.drop j) (j : Int) x = [] := by
  rw [List.drop_eq_nil_iff.2 hj]; rfl
theorem getD_bounds {w : List Int} (hw : ∀ y ∈ w, 0 ≤ y ∧ y ≤ 100000) {j : Nat} (hj : j < w.length) : 0 ≤ w.getD j 0 ∧ w.getD j 0 ≤ 100000 := by
  rw [gD hj]; exact hw _ (List.getElem_mem hj)
theorem extend_walk {σ : Type} {M : Nat → Prop} {N : Nat} {Y : Value} {f : σ → Item → σ × Bool} {I : Bool → σ → Heap → Prop} {ok : σ → Prop} (F : Feeds Try.prog primW RepS σ M N Y f I ok) {N1 : Nat} {ad : Option Addr} {w : List Int} {c : Nat} (hwl : w.length ≤ 4000000) (hw0 : ∀ y ∈ w, 0 ≤ y ∧ y ≤ 100000) (hM : w ≠ [] → ¬ M (blkA ad)) :
    ∀ (k i : Nat), i + k = w.length → ∀ (x : Item) (st : σ) (h : Heap) (s : Value), IntsA N1 h ad w → N ≤ h.next → Acc N h s (ivs x.1) → (x.1 = [] → i = 0) → (∀ y, x.1.getLast? = some y → y + 1 = i) → x.1.length ≤ i → 0 ≤ x.2 ∧ x.2 ≤ 100000 * i → I true st h → AllOk f ok (subsE (w.drop i) i x) st →
    CW Try.prog primW 67 [.slice ad w.length c, .agg #[s, .int .i64 x.2], Y] h fun v h' => v = .bool (foldS f (subsE (w.drop i) i x) st).2 ∧ I (foldS f (subsE (w.drop i) i x) st).2 (foldS f (subsE (w.drop i) i x) st).1 h' ∧ GrowBut M h h' := by
  intro k
  induction k using Nat.strongRecOn with
  | ind k ih =>
    intro i hik x st h s hw hN hA hx0 hxl hxn hx2 hI hok
    obtain ⟨ad2, rfl, hS, hSN⟩ := hA.nums
    refine CW.intro (l := [(2, Y), (1, .agg #[.slice ad2 x.1.length x.1.length, .int .i64 x.2]), (0, .slice ad w.length c)]) rfl Try.func67 rfl (by rfl) ?_
    refine W.rs ?_
    refine RG.step (Op1.box (by rfl)) (by rfl) ?_
    refine RG.abs fun h1 n1 e1 g1 => ?_
    have hw1 := hw.grow g1
    have hS1 := hS.grow g1
    have hA1 := hA.grow g1
    have hI1 := F.grow _ _ _ _ hI g1
    refine RG.step (Op1.assign (by rfl)) (by rfl) ?_
    refine RG.done ?_
    refine W.seq ?_
    refine W.rs ?_
    refine RG.step (Op1.move (by rfl)) (by rfl) ?_
    refine RG.step (Op1.loadAgg agg68 sz68 (by rfl) e1 (by rfl)) (by rfl) ?_
    refine RG.callV (by rfl) (by rfl) (F.call st h1 _ x hok.1 hI1 (by omega) ⟨_, rfl, hA1⟩) (by rfl) ?_
    rintro _ h2 ⟨rfl, hI2, hG2⟩
    have hw2 := hw1.keepB hM hG2
    have hS2 := hS1.keepB (fun e hMb => by have := F.low _ hMb; have := hSN e; omega) hG2
    have hA2 := hA1.keepB F.low hG2
    have e2 := hG2.get (fun hMb => by have := F.low _ hMb; omega) e1
    have hT2 : GrowBut M h h2 := g1.but.trans hG2
    refine RG.step (Op1.notB (by rfl)) (by rfl) ?_
    refine RG.done ?_
    refine W.casesB 12 (by rfl) (fun c1 => ?_) (fun c1 => ?_)
    · refine W.condT (by rfl) ?_
      refine W.rs ?_
      refine RG.step (Op1.assign (by rfl)) (by rfl) ?_
      refine RG.done ?_
      refine W.ret ?_
      refine leaf1 rfl (by rfl) ?_
      have hb : (f st x).2 = false := by simpa using c1
      have hf : foldS f (subsE (w.drop i) i x) st = ((f st x).1, false) := by simp only [subsE, foldS, hb]
      rw [hf]
      rw [hb] at hI2
      exact ⟨rfl, hI2, hT2⟩
    · refine W.condF (by rfl) ?_
      refine W.skip ?_
      refine W.rs ?_
      refine RG.step (Op1.assign (by rfl)) (by rfl) ?_
      refine RG.done ?_
      refine W.seq ?_
      refine W.rs ?_
      refine RG.step (Op1.field Try.underlying68 (by rfl) (by rfl) (by rfl) (by rfl)) (by rfl) ?_
      refine RG.step (Op1.load agg22 (by rfl) (cellAt_of e2 (by rfl))) (by rfl) ?_
      refine RG.step (Op1.len Try.underlying22 (by rfl) (by rfl)) (by rfl) ?_
      refine RG.step (Op1.gtr (by rfl) (by rfl)) (by rfl) ?_
      refine RG.done ?_
      refine W.cases 16 (by rfl) (fun c2 => ?_) (fun c2 => ?_)
      · refine W.condT (by rfl) ?_
        refine W.region ?_
        refine RG.step (Op1.field Try.underlying68 (by rfl) (by rfl) (by rfl) (by rfl)) (by rfl) ?_
        refine RG.step (Op1.load agg22 (by rfl) (cellAt_of e2 (by rfl))) (by rfl) ?_
        
        refine RG.step (Op1.field Try.underlying68 (by rfl) (by rfl) (by rfl) (by rfl)) (by rfl) ?_
        refine RG.step (Op1.load agg22 (by rfl) (cellAt_of e2 (by rfl))) (by rfl) ?_
        refine RG.step (Op1.len Try.underlying22 (by rfl) (by rfl)) (by rfl) ?_
        refine RG.step (Op1.sub (by rfl) (by rfl) (by omega)) (by rfl) ?_
        refine RG.step (Op1.idxI hS2 Try.underlying22 sz3 (by rfl) (by rfl) (by omega) (by omega)) (by rfl) ?_
        refine RG.step (Op1.load agg3 (by rfl) (hS2.at (by omega) (by omega))) (by rfl) ?_
        have hl1 := last_eq hxl (by omega)
        refine RG.step (Op1.add (by rfl) (by rfl) (by omega)) (by rfl) ?_
        refine RG.step (Op1.assign (by rfl)) (by rfl) ?_
        refine RG.done ?_
        refine W.seq ?_
        refine W.rs ?_
        refine RG.tell (v := .int .i64 (i : Int)) 7 (by rfl) (congrArg _ (last_eq hxl c2)) ?_
        refine RG.step (Op1.move (by rfl)) (by rfl) ?_
        refine RG.step (Op1.assign (by rfl)) (by rfl) ?_
        refine RG.done ?_
        refine W.block ?_
        refine W.loop (σ := Nat) (fun j a h3 => ∃ sj, Has 51 [] [(0, .slice ad w.length c), (2, Y), (4, .pointer (some ⟨h.next, 0, none⟩)), (8, .int .i64 (j : Int))] a ∧ i ≤ j ∧ j ≤ w.length ∧ I true sj h3 ∧ GrowBut M h h3 ∧ h3.get h.next = some (.cells [.slice ad2 x.1.length x.1.length, .int .i64 x.2]) ∧ foldS f (subsE (w.drop i) i x) st = foldS f (subsF (w.drop j) j x) sj ∧ AllOk f ok (subsF (w.drop j) j x) sj) (fun j => w.length - j) ?_ (i) ?_
        · rintro j _ h3 ⟨sj, ⟨base, rfl⟩, hij, hjw, hI3, hT3, e3, hfo, hok3⟩
          have hw3 := hw.keepB hM hT3
          have hA3 := hA.keepB F.low hT3
          refine W.seq ?_
          refine W.rs ?_
          refine RG.step (Op1.move (by rfl)) (by rfl) ?_
          refine RG.step (Op1.move (by rfl)) (by rfl) ?_
          refine RG.step (Op1.len Try.underlying22 (by rfl) (by rfl)) (by rfl) ?_
          refine RG.step (Op1.lss (by rfl) (by rfl)) (by rfl) ?_
          refine RG.done ?_
          refine W.cases 30 (by rfl) (fun c3 => ?_) (fun c3 => ?_)
          · refine W.condT (by rfl) ?_
            refine W.skip ?_
            refine W.seq ?_
            refine W.block ?_
            refine W.ds (σ := [0, 1, 2, 4, 5, 7, 8, 9, 10, 11, 12, 13, 15, 3, 6, 14, 16, 17]) (by kernel_rfl) (by kernel_rfl) ?_
            refine RD.pure (by rfl) (by rfl) GOK.no (Op1.move (by rfl)) (by rfl) ?_
            refine RD.pure (by rfl) (by rfl) GOK.no (Op1.field Try.underlying68 (by rfl) (by rfl) (by rfl) (by rfl)) (by rfl) ?_
            refine RD.read (C := fun h => cellAt h _ _ = some _) (by rfl) (by rfl) (by rfl) GOK.no (fun _ hC => Op1.load agg22 (by rfl) hC) (cellAt_of e3 (by rfl)) (simple_of (by rfl)) (by rfl) ?_
            refine RD.pure (by rfl) (by rfl) GOK.no (Op1.move (by rfl)) (by rfl) ?_
            refine RD.make (by rfl) (by rfl) (by rfl) GOK.no (Op1.lit1 Try.underlying22 sz3 zero3 rfl rfl (by rfl) rfl) (by rfl) ?_
            refine RD.abs fun h4 n4 e4 g4 => ?_
            have hw4 := hw3.grow g4
            have eB4 := g4.get e3
            have hA4 := hA3.grow g4
            refine RD.pure (by rfl) (by rfl) GOK.no (Op1.field Try.underlying68 (by rfl) (by rfl) (by rfl) (by rfl)) (by rfl) ?_
            refine RD.read (C := fun h => cellAt h _ _ = some _) (by rfl) (by rfl) (by rfl) GOK.no (fun _ hC => Op1.load agg3 (by rfl) hC) (cellAt_of eB4 (by rfl)) (simple_of (by rfl)) (by rfl) ?_
            refine RD.pure (by rfl) (by rfl) GOK.no (Op1.move (by rfl)) (by rfl) ?_
            refine RD.pure (by rfl) (by rfl) GOK.no (Op1.move (by rfl)) (by rfl) ?_
            refine RD.pure (by rfl) (by rfl) GOK.no (Op1.idxI hw4 Try.underlying22 sz3 (by rfl) (by rfl) (by omega) (by omega)) (by rfl) ?_
            refine RD.read (C := fun h => cellAt h _ _ = some _) (by rfl) (by rfl) (by rfl) GOK.no (fun _ hC => Op1.load agg3 (by rfl) hC) (hw4.at (by omega) (by omega)) (simple_of (by rfl)) (by rfl) ?_
            have hb13 := getD_bounds hw0 (show ((j : Int)).toNat < w.length by omega)
            refine RD.pure (by rfl) (by rfl) GOK.no (Op1.add (by rfl) (by rfl) (by omega)) (by rfl) ?_
            refine RD.pure (by rfl) (by rfl) GOK.no (Op1.move (by rfl)) (by rfl) ?_
            refine RD.callP (m := 6) (pend2 := [_, _]) (by rfl) (by rfl) GOK.no (by kernel_rfl) (by rfl) (by rfl) (by rfl) (by exact clip_walk hA4) (by exact And.intro (hw4.at (by omega) (by omega)) (And.intro (cellAt_of eB4 (by rfl)) (True.intro))) ?_
            refine RD.eff (m := 62) (pend2 := [_, _]) (by rfl) (by rfl) (by kernel_rfl) GOK.no (Op1.appC Try.underlying22 Try.underlying22 one3 (us := [.int .i64 (j : Int)]) (by rfl) hA4.clip (by rfl) (rd_of e4) (fun q _ => by rw [Nat.zero_add]) (by simp) (by rw [ivs_len]; simp; omega)) ((Grow.push _ _).next) (by kernel_rfl) (by rfl) (by exact And.intro ((hw4.grow (Grow.push _ _)).at (by omega) (by omega)) (And.intro (cellAt_of ((Grow.push _ _).get eB4) (by rfl)) (True.intro))) (by rfl) ?_
            refine RD.abs fun h5 n5 e5 g5 => ?_
            have hw5 := hw4.grow g5
            have eB5 := g5.get eB4
            have hI5 := F.grow _ _ _ _ hI3 (g4.trans g5)
            have hok4 := hok3
            rw [sub_step (by omega)] at hok4
            have hA5 := acc_snoc (N := N) (by have := hT3.next; omega) e5
            refine RD.pure (by rfl) (by rfl) GOK.no (Op1.build68 (by rfl) (by rfl) rfl) (by rfl) ?_
            refine RD.call (m := 65535) (pend2 := []) (by rfl) (by kernel_rfl) GOK.no (by kernel_rfl) (by rfl) (fun _ => by rfl) (by rfl) (by exact ih (w.length - (j + 1)) (by omega) (j + 1) (by omega) (x.1 ++ [(j : Int)], x.2 + w.getD (j : Int).toNat 0) sj _ _ hw5 (by have := hT3.next; omega) hA5 (by simp) (by simp) (by simp; omega) (by dsimp only; omega) hI5 (AllOk_append hok4).1) (by rintro _ h6 ⟨rfl, hI6, hG6⟩; exact ⟨hG6.next, True.intro⟩) ?_
            rintro _ h6 ⟨rfl, hI6, hG6⟩
            refine RD.pure (by rfl) (by rfl) GOK.no (Op1.notB (by rfl)) (by rfl) ?_
            refine RD.done ?_
            refine W.casesB 50 (by rfl) (fun c4 => ?_) (fun c4 => ?_)
            · refine W.condT (by rfl) ?_
              refine W.rs ?_
              refine RG.step (Op1.assign (by rfl)) (by rfl) ?_
              refine RG.done ?_
              refine W.ret ?_
              refine leaf1 rfl (by rfl) ?_
              have hb : (foldS f (subsE (w.drop (j + 1)) ((j + 1 : Nat) : Int) (x.1 ++ [(j : Int)], x.2 + w.getD (j : Int).toNat 0)) sj).2 = false := by simpa using c4
              have hf : foldS f (subsE (w.drop i) i x) st = foldS f (subsE (w.drop (j + 1)) ((j + 1 : Nat) : Int) (x.1 ++ [(j : Int)], x.2 + w.getD (j : Int).toNat 0)) sj := by rw [hfo, sub_step (by omega), foldS_append, hb]
              rw [hf, hb]
              rw [hb] at hI6
              exact ⟨rfl, hI6, hT3.trans ((g4.trans g5).but.trans hG6)⟩
            · refine W.condF (by rfl) ?_
              refine W.skip ?_
              refine W.region ?_
              refine RG.step (Op1.move (by rfl)) (by rfl) ?_
              refine RG.step (Op1.add (by rfl) (by rfl) (by omega)) (by rfl) ?_
              refine RG.step (Op1.assign (by rfl)) (by rfl) ?_
              refine RG.done ?_
              have hb : (foldS f (subsE (w.drop (j + 1)) ((j + 1 : Nat) : Int) (x.1 ++ [(j : Int)], x.2 + w.getD (j : Int).toNat 0)) sj).2 = true := by simpa using c4
              have hf : foldS f (subsE (w.drop i) i x) st = foldS f (subsF (w.drop (j + 1)) ((j + 1 : Nat) : Int) x) (foldS f (subsE (w.drop (j + 1)) ((j + 1 : Nat) : Int) (x.1 ++ [(j : Int)], x.2 + w.getD (j : Int).toNat 0)) sj).1 := by rw [hfo, sub_step (by omega), foldS_append, hb]
              have hok6 := (AllOk_append hok4).2 hb
              rw [hb] at hI6
              exact loopQ_next (j + 1) (by omega) ⟨_, St_has _ ⟨rfl, rfl, rfl, rfl, trivial⟩, by omega, by omega, hI6, hT3.trans ((g4.trans g5).but.trans hG6), hG6.get (fun hMb => by have := F.low _ hMb; omega) eB5, hf, hok6⟩
          · refine W.condF (by rfl) ?_
            refine W.exit ?_
            refine W.rs ?_
            refine RG.step (Op1.assign (by rfl)) (by rfl) ?_
            refine RG.done ?_
            refine W.ret ?_
            refine leaf1 rfl (by rfl) ?_
            rw [hfo, sub_end (by omega)]
            exact ⟨rfl, hI3, hT3⟩
        · have hb : (f st x).2 = true := by simpa using c1
          rw [hb] at hI2
          exact ⟨_, St_has _ ⟨rfl, rfl, rfl, rfl, trivial⟩, Nat.le_refl _, by omega, hI2, hT2, e2, by simp only [subsE, foldS, hb], hok.2 hb⟩
      · refine W.condF (by rfl) ?_
        refine W.skip ?_
        refine W.seq ?_
        refine W.rs ?_
        refine RG.tell (v := .int .i64 (i : Int)) 7 (by rfl) (congrArg _ (by rw [hx0 (List.length_eq_zero_iff.1 (by omega))]; rfl)) ?_
        refine RG.step (Op1.move (by rfl)) (by rfl) ?_
        refine RG.step (Op1.assign (by rfl)) (by rfl) ?_
        refine RG.done ?_
        refine W.block ?_
        refine W.loop (σ := Nat) (fun j a h3 => ∃ sj, Has 51 [] [(0, .slice ad w.length c), (2, Y), (4, .pointer (some ⟨h.next, 0, none⟩)), (8, .int .i64 (j : Int))] a ∧ i ≤ j ∧ j ≤ w.length ∧ I true sj h3 ∧ GrowBut M h h3 ∧ h3.get h.next = some (.cells [.slice ad2 x.1.length x.1.length, .int .i64 x.2]) ∧ foldS f (subsE (w.drop i) i x) st = foldS f (subsF (w.drop j) j x) sj ∧ AllOk f ok (subsF (w.drop j) j x) sj) (fun j => w.length - j) ?_ (i) ?_
        · rintro j _ h3 ⟨sj, ⟨base, rfl⟩, hij, hjw, hI3, hT3, e3, hfo, hok3⟩
          have hw3 := hw.keepB hM hT3
          have hA3 := hA.keepB F.low hT3
          refine W.seq ?_
          refine W.rs ?_
          refine RG.step (Op1.move (by rfl)) (by rfl) ?_
          refine RG.step (Op1.move (by rfl)) (by rfl) ?_
          refine RG.step (Op1.len Try.underlying22 (by rfl) (by rfl)) (by rfl) ?_
          refine RG.step (Op1.lss (by rfl) (by rfl)) (by rfl) ?_
          refine RG.done ?_
          refine W.cases 30 (by rfl) (fun c5 => ?_) (fun c5 => ?_)
          · refine W.condT (by rfl) ?_
            refine W.skip ?_
            refine W.seq ?_
            refine W.block ?_
            refine W.ds (σ := [0, 1, 2, 4, 5, 7, 8, 9, 10, 11, 12, 13, 15, 3, 6, 14, 16, 17]) (by kernel_rfl) (by kernel_rfl) ?_
            refine RD.pure (by rfl) (by rfl) GOK.no (Op1.move (by rfl)) (by rfl) ?_
            refine RD.pure (by rfl) (by rfl) GOK.no (Op1.field Try.underlying68 (by rfl) (by rfl) (by rfl) (by rfl)) (by rfl) ?_
            refine RD.read (C := fun h => cellAt h _ _ = some _) (by rfl) (by rfl) (by rfl) GOK.no (fun _ hC => Op1.load agg22 (by rfl) hC) (cellAt_of e3 (by rfl)) (simple_of (by rfl)) (by rfl) ?_
            refine RD.pure (by rfl) (by rfl) GOK.no (Op1.move (by rfl)) (by rfl) ?_
            refine RD.make (by rfl) (by rfl) (by rfl) GOK.no (Op1.lit1 Try.underlying22 sz3 zero3 rfl rfl (by rfl) rfl) (by rfl) ?_
            refine RD.abs fun h4 n4 e4 g4 => ?_
            have hw4 := hw3.grow g4
            have eB4 := g4.get e3
            have hA4 := hA3.grow g4
            refine RD.pure (by rfl) (by rfl) GOK.no (Op1.field Try.underlying68 (by rfl) (by rfl) (by rfl) (by rfl)) (by rfl) ?_
            refine RD.read (C := fun h => cellAt h _ _ = some _) (by rfl) (by rfl) (by rfl) GOK.no (fun _ hC => Op1.load agg3 (by rfl) hC) (cellAt_of eB4 (by rfl)) (simple_of (by rfl)) (by rfl) ?_
            refine RD.pure (by rfl) (by rfl) GOK.no (Op1.move (by rfl)) (by rfl) ?_
            refine RD.pure (by rfl) (by rfl) GOK.no (Op1.move (by rfl)) (by rfl) ?_
            refine RD.pure (by rfl) (by rfl) GOK.no (Op1.idxI hw4 Try.underlying22 sz3 (by rfl) (by rfl) (by omega) (by omega)) (by rfl) ?_
            refine RD.read (C := fun h => cellAt h _ _ = some _) (by rfl) (by rfl) (by rfl) GOK.no (fun _ hC => Op1.load agg3 (by rfl) hC) (hw4.at (by omega) (by omega)) (simple_of (by rfl)) (by rfl) ?_
            have hb13 := getD_bounds hw0 (show ((j : Int)).toNat < w.length by omega)
            refine RD.pure (by rfl) (by rfl) GOK.no (Op1.add (by rfl) (by rfl) (by omega)) (by rfl) ?_
            refine RD.pure (by rfl) (by rfl) GOK.no (Op1.move (by rfl)) (by rfl) ?_
            refine RD.callP (m := 6) (pend2 := [_, _]) (by rfl) (by rfl) GOK.no (by kernel_rfl) (by rfl) (by rfl) (by rfl) (by exact clip_walk hA4) (by exact And.intro (hw4.at (by omega) (by omega)) (And.intro (cellAt_of eB4 (by rfl)) (True.intro))) ?_
            refine RD.eff (m := 62) (pend2 := [_, _]) (by rfl) (by rfl) (by kernel_rfl) GOK.no (Op1.appC Try.underlying22 Try.underlying22 one3 (us := [.int .i64 (j : Int)]) (by rfl) hA4.clip (by rfl) (rd_of e4) (fun q _ => by rw [Nat.zero_add]) (by simp) (by rw [ivs_len]; simp; omega)) ((Grow.push _ _).next) (by kernel_rfl) (by rfl) (by exact And.intro ((hw4.grow (Grow.push _ _)).at (by omega) (by omega)) (And.intro (cellAt_of ((Grow.push _ _).get eB4) (by rfl)) (True.intro))) (by rfl) ?_
            refine RD.abs fun h5 n5 e5 g5 => ?_
            have hw5 := hw4.grow g5
            have eB5 := g5.get eB4
            have hI5 := F.grow _ _ _ _ hI3 (g4.trans g5)
            have hok4 := hok3
            rw [sub_step (by omega)] at hok4
            have hA5 := acc_snoc (N := N) (by have := hT3.next; omega) e5
            refine RD.pure (by rfl) (by rfl) GOK.no (Op1.build68 (by rfl) (by rfl) rfl) (by rfl) ?_
            refine RD.call (m := 65535) (pend2 := []) (by rfl) (by kernel_rfl) GOK.no (by kernel_rfl) (by rfl) (fun _ => by rfl) (by rfl) (by exact ih (w.length - (j + 1)) (by omega) (j + 1) (by omega) (x.1 ++ [(j : Int)], x.2 + w.getD (j : Int).toNat 0) sj _ _ hw5 (by have := hT3.next; omega) hA5 (by simp) (by simp) (by simp; omega) (by dsimp only; omega) hI5 (AllOk_append hok4).1) (by rintro _ h6 ⟨rfl, hI6, hG6⟩; exact ⟨hG6.next, True.intro⟩) ?_
            rintro _ h6 ⟨rfl, hI6, hG6⟩
            refine RD.pure (by rfl) (by rfl) GOK.no (Op1.notB (by rfl)) (by rfl) ?_
            refine RD.done ?_
            refine W.casesB 50 (by rfl) (fun c6 => ?_) (fun c6 => ?_)
            · refine W.condT (by rfl) ?_
              refine W.rs ?_
              refine RG.step (Op1.assign (by rfl)) (by rfl) ?_
              refine RG.done ?_
              refine W.ret ?_
              refine leaf1 rfl (by rfl) ?_
              have hb : (foldS f (subsE (w.drop (j + 1)) ((j + 1 : Nat) : Int) (x.1 ++ [(j : Int)], x.2 + w.getD (j : Int).toNat 0)) sj).2 = false := by simpa using c6
              have hf : foldS f (subsE (w.drop i) i x) st = foldS f (subsE (w.drop (j + 1)) ((j + 1 : Nat) : Int) (x.1 ++ [(j : Int)], x.2 + w.getD (j : Int).toNat 0)) sj := by rw [hfo, sub_step (by omega), foldS_append, hb]
              rw [hf, hb]
              rw [hb] at hI6
              exact ⟨rfl, hI6, hT3.trans ((g4.trans g5).but.trans hG6)⟩
            · refine W.condF (by rfl) ?_
              refine W.skip ?_
              refine W.region ?_
              refine RG.step (Op1.move (by rfl)) (by rfl) ?_
              refine RG.step (Op1.add (by rfl) (by rfl) (by omega)) (by rfl) ?_
              refine RG.step (Op1.assign (by rfl)) (by rfl) ?_
              refine RG.done ?_
              have hb : (foldS f (subsE (w.drop (j + 1)) ((j + 1 : Nat) : Int) (x.1 ++ [(j : Int)], x.2 + w.getD (j : Int).toNat 0)) sj).2 = true := by simpa using c6
              have hf : foldS f (subsE (w.drop i) i x) st = foldS f (subsF (w.drop (j + 1)) ((j + 1 : Nat) : Int) x) (foldS f (subsE (w.drop (j + 1)) ((j + 1 : Nat) : Int) (x.1 ++ [(j : Int)], x.2 + w.getD (j : Int).toNat 0)) sj).1 := by rw [hfo, sub_step (by omega), foldS_append, hb]
              have hok6 := (AllOk_append hok4).2 hb
              rw [hb] at hI6
              exact loopQ_next (j + 1) (by omega) ⟨_, St_has _ ⟨rfl, rfl, rfl, rfl, trivial⟩, by omega, by omega, hI6, hT3.trans ((g4.trans g5).but.trans hG6), hG6.get (fun hMb => by have := F.low _ hMb; omega) eB5, hf, hok6⟩
          · refine W.condF (by rfl) ?_
            refine W.exit ?_
            refine W.rs ?_
            refine RG.step (Op1.assign (by rfl)) (by rfl) ?_
            refine RG.done ?_
            refine W.ret ?_
            refine leaf1 rfl (by rfl) ?_
            rw [hfo, sub_end (by omega)]
            exact ⟨rfl, hI3, hT3⟩
        · have hb : (f st x).2 = true := by simpa using c1
          rw [hb] at hI2
          exact ⟨_, St_has _ ⟨rfl, rfl, rfl, rfl, trivial⟩, Nat.le_refl _, by omega, hI2, hT2, e2, by simp only [subsE, foldS, hb], hok.2 hb⟩
end Go.Proofs.Ytekhhjcbjaegeaa
