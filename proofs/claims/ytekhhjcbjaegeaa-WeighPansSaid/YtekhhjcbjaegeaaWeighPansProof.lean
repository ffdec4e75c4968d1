/-
  WeighPans: for every slice of ints and every int the law 'bellpulllaw08.WeighPans' returns true, and its arguments read as they did. No condition.
-/
import Derived.Test.YtekhhjcbjaegeaaRows
import Derived.Test.YtekhhjcbjaegeaaLaw5
import Derived.Test.YtekhhjcbjaegeaaGlue
import Derived.WalkKit
import Derived.ProofKit
import Derived.OpenShut
import Derived.ChangeSlices
namespace Go.Proofs.Ytekhhjcbjaegeaa.weighPans
open Go Go.AM Go.ChangeShapes Go.WideShapes Go.ChangeAt Go.RowKit
set_option linter.unusedVariables false

theorem own : ownKnob Try.prog.godebug = none := by kernel_rfl

set_option maxRecDepth 100000 in
theorem lifted (os : Os) (started : os.Started) (H : Type) (enc : TypeId × Value → H) :
    ReturnsInHanded {} Try.checked os 5 .any (Rows.weighPansSpec.pre6 enc Try.prog Try.f5 Rows.weighPansRow.domain false) (Rows.weighPansSpec.post enc Try.prog Try.f5 false true false false) := by
  refine returnsInHanded_of_change (C := Try.checked) own started (by kernel_rfl) Try.func5
    (ChangeSpec.witness6 (enc := enc) (C := Try.checked) false ⟨#[], #[.slice none 0 0, .int .i64 0], []⟩ 8 (by kernel_rfl) (by kernel_rfl) (by kernel_rfl) (by kernel_rfl)) ?_
  intro W base args ds gs before hval0 hW hcnd _
  have hval : ∀ (j : Nat) t v, Try.f5.params[j]? = some t → args[j]? = some v → Value.okWide Try.prog W .any base t v := hval0
  have hW' := hW
  obtain ⟨p, q, hA0, hV, rfl, hfz, hnd⟩ := hW
  have hA : DataW.TrodAll enc Try.prog W 0 (fun _ => true) true Try.f5.params.toList args.toList ds p := hA0
  rw [Try.params5] at hA hval
  obtain ⟨v0, vs0, d0, ds0, p0, q0, hargs, rfl, rfl, h0, r0⟩ := trodAll_cons hA
  obtain ⟨v1, vs1, d1, ds1, p1, q1, rfl, rfl, rfl, h1, r1⟩ := trodAll_cons r0
  obtain ⟨rfl, rfl, rfl⟩ := trodAll_nil r1
  obtain rfl : args = #[v0, v1] := by cases args; simp_all
  obtain ⟨rfl, rfl⟩ := trodVars_none hV
  obtain ⟨a1, rfl, rfl, rfl, w1⟩ := open_int Try.underlying3 (hval 1 3 v1 rfl rfl) h1
  have ht : a1 < 9223372036854775808 := by have w1' := w1; simp [Lit.wf, IntKind.min, IntKind.max, IntKind.signed, IntKind.bits] at w1'; omega
  have hok0 := hval 0 22 v0 rfl rfl
  obtain ⟨a, len, cap, rfl⟩ := okWide_slice Try.underlying22 hok0
  have ok1 : ∀ {W' : World} (j : Nat) (t : TypeId) (r : Value), Try.f5.resultTypes[j]? = some t → ((Value.bool true).resultList Try.f5.resultTypes.size)[j]? = some r → Value.okWide Try.prog W' .any 0 t r := fun j t r => ok_one (by kernel_rfl) rfl (okWide_bool_mk Try.underlying4 _) j t r
  clear hA0 hval0
  simp only [List.append_nil] at hW'
  obtain ⟨f0, h0⟩ := h0
  rcases open_ints Try.underlying22 Try.underlying3 cells3' h0 with ⟨e1, e2⟩ | ⟨ad, len', cap', zs, e1, _, hlen, hmax, hzl, e2, hcell, hwf⟩
  · obtain ⟨rfl, rfl, rfl⟩ : a = none ∧ len = 0 ∧ cap = 0 := by simpa [Value.cells] using e1
    obtain ⟨rfl, rfl⟩ := Prod.mk.inj e2
    obtain ⟨ρ0, hp, ad', hHR, hVR, hSl, hro⟩ := arg_ints (zs := []) hok0 (Nat.le_refl _) rfl (fun ad h => by cases h) (fun _ => ⟨rfl, rfl⟩)
    refine (law_calls hHR (.cons hVR (.cons (.fl rfl) (.nil _))) hro (weighPans_walk (total := a1) hSl (by simp) ht)).mono fun e W' ⟨he, hg⟩ => ?_
    subst he
    exact ⟨_, rfl, post_kept (pa := []) (pv := []) hW' (fun _ _ _ => (trodAll_cons_mk (shut_bool Try.underlying4 _) trodAll_mk0)) (fun sp _ => (trodAll_cons_mk (shut_slice_nil Try.underlying22) (trodAll_cons_mk (shut_int Try.underlying3 w1) trodAll_mk0))) (fun _ _ => rfl) rfl hg ok1⟩
  · obtain ⟨rfl, rfl, rfl⟩ : a = some ad ∧ len = len' ∧ cap = cap' := by simpa [Value.cells] using e1
    obtain ⟨rfl, rfl⟩ := Prod.mk.inj e2
    have hzc : zs.length = cap := by simpa using hzl
    obtain ⟨ρ0, hp, ad', hHR, hVR, hSl, hro⟩ := arg_ints hok0 hlen hzc (fun ad2 h => by injection h with h; subst h; exact hcell) (fun h => by cases h)
    have hl2 : (zs.take len).length = len := by rw [List.length_take]; omega
    have hw4 := weighPans_walk (total := a1) hSl (by rw [hl2]; have : maxLen = 9223372036854775807 := rfl; omega) ht
    rw [hl2] at hw4
    refine (law_calls hHR (.cons hVR (.cons (.fl rfl) (.nil _))) hro hw4).mono fun e W' ⟨he, hg⟩ => ?_
    subst he
    exact ⟨_, rfl, post_kept (pa := MemPlace.row ad zs.length ++ ([] ++ [])) (pv := []) hW' (fun _ _ _ => (trodAll_cons_mk (shut_bool Try.underlying4 _) trodAll_mk0)) (fun sp hsp => (trodAll_cons_mk (again_ints hg hlen hmax hzc hcell hwf sp (fun p hp => hsp p (by simp [hp]))) (trodAll_cons_mk (shut_int Try.underlying3 w1) trodAll_mk0))) (fun _ _ => rfl) (by simp) hg ok1⟩

theorem over : Rows.weighPansRow.holds Try.pinned (OpenSpec.ofChange Rows.weighPansSpec) :=
  OpenClaim.holds_of_wide 5 Try.f5 rfl rfl rfl rfl rfl rfl rfl ⟨rfl, rfl, rfl, rfl, rfl⟩ rfl rfl rfl rfl rfl (by kernel_rfl) Try.func5 (by kernel_rfl)
    (of_decide_eq_true (by kernel_rfl)) (by unfold Func.isWrapper; first | (rw [if_pos (by decide +kernel)]; kernel_rfl) | (rw [if_neg (by decide +kernel)]; exact ⟨rfl, rfl⟩))
    (fun os started H enc _ => lifted os started H enc)

theorem proved : Rows.WeighPansSaid :=
  over
#print axioms proved
end Go.Proofs.Ytekhhjcbjaegeaa.weighPans
