/- The law FnExactExampleLand: for every input it returns true, and each argument reads afterwards as before. No condition. -/
import Derived.Test.YtfdkpmbpnppllaaRows
import Derived.Test.YtfdkpmbpnppllaaARowD
import Derived.Test.YtfdkpmbpnppllaaAProgF
import Derived.Test.YtfdkpmbpnppllaaALExampleLand
import Derived.WalkKit
import Derived.ProofKit
import Derived.OpenShut
import Derived.ShutString
import Derived.ChangeOld
import Derived.Below
import Derived.SizedLaws
import Derived.Carry
namespace Go.Proofs.Ytfdkpmbpnppllaa.fnExactExampleLand
open Go.ChangeShapes Go.WideShapes Go.ChangeAt Go.RowKit Go.Abs
set_option linter.unusedVariables false
set_option linter.unusedSimpArgs false
theorem own : ownKnob Try.prog.godebug = none := by kernel_rfl
theorem laid : laidOutB Try.prog = true := by kernel_rfl
set_option maxRecDepth 100000 in
theorem lifted (os : Os) (started : os.Started) (H : Type) (enc : TypeId × Value → H) :
    ReturnsInHanded {} Try.checked os 3 .any (Rows.fnExactExampleLandSpec.pre6 enc Try.prog Try.f3 Rows.fnExactExampleLandRow.domain false) (Rows.fnExactExampleLandSpec.post enc Try.prog Try.f3 false true false false) := by
  refine returnsInHanded_of_change_sized (C := Try.checked) own started (by kernel_rfl) Try.func3
    (ChangeSpec.witness6 (enc := enc) (C := Try.checked) false ⟨#[], #[], []⟩ 8 (by kernel_rfl) (by kernel_rfl) (by kernel_rfl) (by kernel_rfl)) ?_
  intro W base args ds gs before hval0 hW hcnd hsz0 _
  have hval : ∀ (j : Nat) t v, Try.f3.params[j]? = some t → args[j]? = some v → Value.okWide Try.prog W .any base t v := hval0
  have hW' := hW
  obtain ⟨p, q, hA0, hV, rfl, hfz, hnd⟩ := hW
  have hA : DataW.TrodAll enc Try.prog W 0 (fun _ => true) true Try.f3.params.toList args.toList ds p := hA0
  rw [Try.params3] at hA hval
  obtain ⟨hargs, rfl, rfl⟩ := trodAll_nil hA
  obtain rfl : args = #[] := by cases args; simp_all
  obtain ⟨rfl, rfl⟩ := trodVars_none hV
  refine (law_calls (law_ExampleLand ) (Z.none (by kernel_rfl)) rfl ?_).mono fun e W' ⟨he, bel⟩ => ?_
  · intro i x u hx hu
    simp at hx
  subst he
  exact ⟨_, rfl, _, _, _, [], _, [], hW', trodAll_mk1 (shut_bool Try.underlying4 _), trodAll_mk0, rfl, bel.frame _, fun h => by cases h⟩
theorem unf : Try.pinned.checked.prog.unfollowed 3 = false := by kernel_rfl
theorem inp : Try.pinned.checked.prog.inPlace 3 = Rows.fnExactExampleLandRow.inPlace := by kernel_rfl
theorem vars : Try.pinned.checked.prog.varsNamed 3 = Rows.fnExactExampleLandRow.named := by kernel_rfl
theorem closed : joinedFacts Try.pinned.checked.prog 3 Try.f3 Rows.fnExactExampleLandSpec Rows.fnExactExampleLandRow = true := by
  have hr : Try.pinned.checked.prog.recurses 3 = false := recurses_rank _ unf pf_rank
  unfold joinedFacts
  rw [unf, inp, vars, hr, pf_laid, pf_stops, pf_knobs, pf_lifts, pf_plain, pf_heard, pf_enter, pf_make]
  refine eq_idb ?_
  kernel_rfl
theorem over : Rows.fnExactExampleLandRow.holds Try.pinned (OpenSpec.ofChange Rows.fnExactExampleLandSpec) :=
  OpenClaim.holds_of_wide 3 Try.f3 rfl rfl rfl rfl rfl rfl rfl ⟨rfl, rfl, rfl, rfl, rfl⟩ rfl rfl rfl rfl rfl (by kernel_rfl) Try.func3 closed
    (of_decide_eq_true (by kernel_rfl)) (by unfold Func.isWrapper; first | (rw [if_pos (by decide +kernel)]; kernel_rfl) | (rw [if_neg (by decide +kernel)]; exact ⟨rfl, rfl⟩))
    (fun os started H enc _ => lifted os started H enc)
theorem proved : Rows.FnExactExampleLandSaid := over
#print axioms proved
end Go.Proofs.Ytfdkpmbpnppllaa.fnExactExampleLand
namespace Go.Proofs.Ytfdkpmbpnppllaa
/-- The row, under a short name, for the claim. -/
theorem fnExactExampleLand_holds : Rows.FnExactExampleLandSaid := fnExactExampleLand.proved
end Go.Proofs.Ytfdkpmbpnppllaa
