/- The law FnExactRunEvents: for every input it returns true, and each argument reads afterwards as before. No condition. -/
import Derived.Test.YtgnomlceahpbkaaGreatRows
import Derived.Test.YtgnomlceahpbkaaGreatARowD
import Derived.Test.YtgnomlceahpbkaaGreatAProgF
import Derived.Test.YtgnomlceahpbkaaGreatALRunEvents
import Derived.WalkKit
import Derived.ProofKit
import Derived.OpenShut
import Derived.ShutString
import Derived.ChangeOld
import Derived.Below
import Derived.SizedLaws
import Derived.Carry
namespace Go.Proofs.YtgnomlceahpbkaaGreat.fnExactRunEvents
open Go.ChangeShapes Go.WideShapes Go.ChangeAt Go.RowKit Go.Abs
set_option linter.unusedVariables false
set_option linter.unusedSimpArgs false
theorem own : ownKnob Tryz.prog.godebug = none := by kernel_rfl
theorem laid : laidOutB Tryz.prog = true := by kernel_rfl
set_option maxRecDepth 100000 in
theorem lifted (os : Os) (started : os.Started) (H : Type) (enc : TypeId × Value → H) :
    ReturnsInHanded {} Tryz.checked os 12 .any (Rows.fnExactRunEventsSpec.pre6 enc Tryz.prog Tryz.f12 Rows.fnExactRunEventsRow.domain false) (Rows.fnExactRunEventsSpec.post enc Tryz.prog Tryz.f12 false true false false) := by
  refine returnsInHanded_of_change_sized (C := Tryz.checked) own started (by kernel_rfl) Tryz.func12
    (ChangeSpec.witness6 (enc := enc) (C := Tryz.checked) false ⟨#[], #[.agg #[.int .i64 0, .int .i64 0, .slice none 0 0, .int .i64 0, .int .i64 0, .int .i64 0, .slice none 0 0, .int .i64 0, .int .i64 0, .slice none 0 0, .slice none 0 0, .slice none 0 0, .int .i64 0, .int .i64 0, .int .i64 0], .slice none 0 0], []⟩ 8 (by kernel_rfl) (by kernel_rfl) (by kernel_rfl) (by kernel_rfl)) ?_
  intro W base args ds gs before hval0 hW hcnd hsz0 _
  have hval : ∀ (j : Nat) t v, Tryz.f12.params[j]? = some t → args[j]? = some v → Value.okWide Tryz.prog W .any base t v := hval0
  have hW' := hW
  obtain ⟨p, q, hA0, hV, rfl, hfz, hnd⟩ := hW
  have hA : DataW.TrodAll enc Tryz.prog W 0 (fun _ => true) true Tryz.f12.params.toList args.toList ds p := hA0
  rw [Tryz.params12] at hA hval
  obtain ⟨v0, vs0, d0, ds0, p0, q0, hargs0, rfl, rfl, h0, r0⟩ := trodAll_cons hA
  obtain ⟨v1, vs1, d1, ds1, p1, q1, hargs1, rfl, rfl, h1, r1⟩ := trodAll_cons r0
  obtain ⟨rfl, rfl, rfl⟩ := trodAll_nil r1
  obtain rfl : args = #[v0, v1] := by cases args; simp_all
  obtain ⟨rfl, rfl⟩ := trodVars_none hV
  have hv0 := hval 0 34 v0 rfl rfl
  obtain ⟨fu0, hfu0⟩ := id h0
  obtain ⟨us0, rfl⟩ : ∃ us, v0 = .agg us := by cases v0 <;> first | exact ⟨_, rfl⟩ | (simp [Value.okWide, Tryz.underlying34, Cell.okWide, Cell.ok] at hv0)
  obtain ⟨t, hr0, t_wf⟩ := opR_Trek (F := fun b => b < W.heap.size) (fun b hb => hb) hfu0
  have hlt0 : ∀ x ∈ p0, x.block < W.heap.size := fun x hx => hW'.lt x (by simp [hx])
  have hv1 := hval 1 64 v1 rfl rfl
  obtain ⟨fu1, hfu1⟩ := id h1
  have hc1 : v1.cells.toList = [v1] := by cases v1 <;> first | rfl | (simp [Value.okWide, Tryz.underlying64, Cell.okWide, Cell.ok] at hv1)
  rw [hc1] at hfu1
  obtain ⟨u1, list, he1, _, hr1, hm1, hw1⟩ := opS_Event (F := fun b => b < W.heap.size) (fun b hb => hb) hfu1
  obtain rfl := List.head_eq_of_cons_eq he1
  have hlt1 : ∀ x ∈ p1, x.block < W.heap.size := fun x hx => hW'.lt x (by simp [hx])
  refine (law_calls (law_RunEvents t list t_wf hm1 hw1) rfl ?_).mono fun e W' ⟨he, bel⟩ => ?_
  · intro i x u hx hu
    rcases i with _ | i
    · simp only [List.getElem?_cons_zero, List.getElem?_cons_succ, Option.some.injEq] at hx hu
      subst hx; subst hu; exact ⟨us0.toList, by simp, hr0⟩
    rcases i with _ | i
    · simp only [List.getElem?_cons_zero, List.getElem?_cons_succ, Option.some.injEq] at hx hu
      subst hx; subst hu; exact hr1
    simp at hx
  subst he
  exact ⟨_, rfl, _, _, _, [], _, [], hW', trodAll_mk1 (shut_bool Tryz.underlying4 _), (trodAll_cons_mk (Below.trod laid (by kernel_rfl) (of_decide_eq_true (by kernel_rfl)) h0 bel hlt0) (trodAll_cons_mk (Below.trod laid (by kernel_rfl) (of_decide_eq_true (by kernel_rfl)) h1 bel hlt1) trodAll_mk0)), rfl, bel.frame _, fun h => by cases h⟩
theorem unf : Tryz.pinned.checked.prog.unfollowed 12 = false := by kernel_rfl
theorem inp : Tryz.pinned.checked.prog.inPlace 12 = [] := by kernel_rfl
theorem vars : Tryz.pinned.checked.prog.varsNamed 12 = [] := by kernel_rfl
theorem closed : joinedFacts Tryz.pinned.checked.prog 12 Tryz.f12 Rows.fnExactRunEventsSpec Rows.fnExactRunEventsRow = true := by
  have hr : Tryz.pinned.checked.prog.recurses 12 = false := recurses_rank _ unf pf_rank
  unfold joinedFacts
  rw [unf, inp, vars, hr, pf_laid, pf_stops, pf_knobs, pf_lifts, pf_plain, pf_heard, pf_enter, pf_make]
  refine eq_idb ?_
  kernel_rfl
theorem over : Rows.fnExactRunEventsRow.holds Tryz.pinned (OpenSpec.ofChange Rows.fnExactRunEventsSpec) :=
  OpenClaim.holds_of_wide 12 Tryz.f12 rfl rfl rfl rfl rfl rfl rfl ⟨rfl, rfl, rfl, rfl, rfl⟩ rfl rfl rfl rfl rfl (by kernel_rfl) Tryz.func12 closed
    (of_decide_eq_true (by kernel_rfl)) (by unfold Func.isWrapper; first | (rw [if_pos (by decide +kernel)]; kernel_rfl) | (rw [if_neg (by decide +kernel)]; exact ⟨rfl, rfl⟩))
    (fun os started H enc _ => lifted os started H enc)
theorem proved : Rows.FnExactRunEventsSaid := over
#print axioms proved
end Go.Proofs.YtgnomlceahpbkaaGreat.fnExactRunEvents
namespace Go.Proofs.YtgnomlceahpbkaaGreat
/-- The row, under a short name, for the claim. -/
theorem fnExactRunEvents_holds : Rows.FnExactRunEventsSaid := fnExactRunEvents.proved
end Go.Proofs.YtgnomlceahpbkaaGreat
