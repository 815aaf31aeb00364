/- The law FnTop: for every input it returns true, and each argument reads afterwards as before. No condition. -/
import Derived.Test.YtfdkpmbpnppllaaGreatRows
import Derived.Test.YtfdkpmbpnppllaaGreatARowD
import Derived.Test.YtfdkpmbpnppllaaGreatAProgF
import Derived.Test.YtfdkpmbpnppllaaGreatALTop
import Derived.Test.YtfdkpmbpnppllaaGreatACurR
import Derived.WalkKit
import Derived.ProofKit
import Derived.OpenShut
import Derived.ShutString
import Derived.ChangeOld
import Derived.Below
import Derived.SizedLaws
import Derived.Carry
namespace Go.Proofs.YtfdkpmbpnppllaaGreat.fnTop
open Go.ChangeShapes Go.WideShapes Go.ChangeAt Go.RowKit Go.Abs
set_option linter.unusedVariables false
set_option linter.unusedSimpArgs false
theorem own : ownKnob Tryz.prog.godebug = none := by kernel_rfl
theorem laid : laidOutB Tryz.prog = true := by kernel_rfl
set_option maxRecDepth 100000 in
theorem lifted (os : Os) (started : os.Started) (H : Type) (enc : TypeId × Value → H) :
    ReturnsInHanded {} Tryz.checked os 8 .any (Rows.fnTopSpec.pre6 enc Tryz.prog Tryz.f8 Rows.fnTopRow.domain false) (Rows.fnTopSpec.post enc Tryz.prog Tryz.f8 false true false false) := by
  refine returnsInHanded_of_change_sized (C := Tryz.checked) own started (by kernel_rfl) Tryz.func8
    (ChangeSpec.witness6 (enc := enc) (C := Tryz.checked) false ⟨#[], #[.slice none 0 0], []⟩ 8 (by kernel_rfl) (by kernel_rfl) (by kernel_rfl) (by kernel_rfl)) ?_
  intro W base args ds gs before hval0 hW hcnd hsz0 _
  have hval : ∀ (j : Nat) t v, Tryz.f8.params[j]? = some t → args[j]? = some v → Value.okWide Tryz.prog W .any base t v := hval0
  have hW' := hW
  obtain ⟨p, q, hA0, hV, rfl, hfz, hnd⟩ := hW
  have hA : DataW.TrodAll enc Tryz.prog W 0 (fun _ => true) true Tryz.f8.params.toList args.toList ds p := hA0
  rw [Tryz.params8] at hA hval
  obtain ⟨v0, vs0, d0, ds0, p0, q0, hargs0, rfl, rfl, h0, r0⟩ := trodAll_cons hA
  obtain ⟨rfl, rfl, rfl⟩ := trodAll_nil r0
  obtain rfl : args = #[v0] := by cases args; simp_all
  obtain ⟨rfl, rfl⟩ := trodVars_none hV
  have hv0 := hval 0 22 v0 rfl rfl
  obtain ⟨fu0, hfu0⟩ := id h0
  have hc0 : v0.cells.toList = [v0] := by cases v0 <;> first | rfl | (simp [Value.okWide, Tryz.underlying22, Cell.okWide, Cell.ok] at hv0)
  rw [hc0] at hfu0
  obtain ⟨u0, code, he0, _, hr0, hm0, hw0⟩ := opS_uint8 (F := fun b => b < W.heap.size) (fun b hb => hb) hfu0
  obtain rfl := List.head_eq_of_cons_eq he0
  have hlt0 : ∀ x ∈ p0, x.block < W.heap.size := fun x hx => hW'.lt x (by simp [hx])
  refine (law_calls (law_Top code hm0) rfl ?_).mono fun e W' ⟨he, bel⟩ => ?_
  · intro i x u hx hu
    rcases i with _ | i
    · simp only [List.getElem?_cons_zero, List.getElem?_cons_succ, Option.some.injEq] at hx hu
      subst hx; subst hu; exact hr0
    simp at hx
  subst he
  exact ⟨_, rfl, _, _, _, [], _, [], hW', trodAll_mk1 (shut_bool Tryz.underlying4 _), (trodAll_cons_mk (Below.trod laid (by kernel_rfl) (of_decide_eq_true (by kernel_rfl)) h0 bel hlt0) trodAll_mk0), rfl, bel.frame _, fun h => by cases h⟩
theorem unf : Tryz.pinned.checked.prog.unfollowed 8 = false := by kernel_rfl
theorem inp : Tryz.pinned.checked.prog.inPlace 8 = [] := by kernel_rfl
theorem vars : Tryz.pinned.checked.prog.varsNamed 8 = [] := by kernel_rfl
theorem closed : joinedFacts Tryz.pinned.checked.prog 8 Tryz.f8 Rows.fnTopSpec Rows.fnTopRow = true := by
  have hr : Tryz.pinned.checked.prog.recurses 8 = false := recurses_rank _ unf pf_rank
  unfold joinedFacts
  rw [unf, inp, vars, hr, pf_laid, pf_stops, pf_knobs, pf_lifts, pf_plain, pf_heard, pf_enter, pf_make]
  refine eq_idb ?_
  kernel_rfl
theorem over : Rows.fnTopRow.holds Tryz.pinned (OpenSpec.ofChange Rows.fnTopSpec) :=
  OpenClaim.holds_of_wide 8 Tryz.f8 rfl rfl rfl rfl rfl rfl rfl ⟨rfl, rfl, rfl, rfl, rfl⟩ rfl rfl rfl rfl rfl (by kernel_rfl) Tryz.func8 closed
    (of_decide_eq_true (by kernel_rfl)) (by unfold Func.isWrapper; first | (rw [if_pos (by decide +kernel)]; kernel_rfl) | (rw [if_neg (by decide +kernel)]; exact ⟨rfl, rfl⟩))
    (fun os started H enc _ => lifted os started H enc)
theorem proved : Rows.FnTopSaid := over
#print axioms proved
end Go.Proofs.YtfdkpmbpnppllaaGreat.fnTop
namespace Go.Proofs.YtfdkpmbpnppllaaGreat
/-- The row, under a short name, for the claim. -/
theorem fnTop_holds : Rows.FnTopSaid := fnTop.proved
end Go.Proofs.YtfdkpmbpnppllaaGreat
