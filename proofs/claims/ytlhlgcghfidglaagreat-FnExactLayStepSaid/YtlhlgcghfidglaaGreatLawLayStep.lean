/- The law FnExactLayStep: for every input it returns true, and each argument reads afterwards as before. No condition. -/
import Derived.Test.YtlhlgcghfidglaaGreatRows
import Derived.Test.YtlhlgcghfidglaaGreatARowD
import Derived.Test.YtlhlgcghfidglaaGreatALLayStep
import Derived.WalkKit
import Derived.ProofKit
import Derived.OpenShut
import Derived.ShutString
import Derived.ChangeOld
import Derived.Below
import Derived.SizedLaws
import Derived.Carry
namespace Go.Proofs.YtlhlgcghfidglaaGreat.fnExactLayStep
open Go.ChangeShapes Go.WideShapes Go.ChangeAt Go.RowKit Go.Abs
set_option linter.unusedVariables false
set_option linter.unusedSimpArgs false
theorem own : ownKnob Tryz.prog.godebug = none := by kernel_rfl
theorem laid : laidOutB Tryz.prog = true := by kernel_rfl
set_option maxRecDepth 100000 in
theorem lifted (os : Os) (started : os.Started) (H : Type) (enc : TypeId × Value → H) :
    ReturnsInHanded {} Tryz.checked os 5 .any (Rows.fnExactLayStepSpec.pre6 enc Tryz.prog Tryz.f5 Rows.fnExactLayStepRow.domain false) (Rows.fnExactLayStepSpec.post enc Tryz.prog Tryz.f5 false true false false) := by
  refine returnsInHanded_of_change_sized (C := Tryz.checked) own started (by kernel_rfl) Tryz.func5
    (ChangeSpec.witness6 (enc := enc) (C := Tryz.checked) false ⟨#[], #[.agg #[.int .i64 0, .int .i64 0, .slice none 0 0], .int .i64 0, .agg #[.int .i64 0, .int .i64 0], .slice none 0 0, .agg #[.int .i64 0, .int .i64 0, .slice none 0 0, .slice none 0 0], .int .i64 0], []⟩ 8 (by kernel_rfl) (by kernel_rfl) (by kernel_rfl) (by kernel_rfl)) ?_
  intro W base args ds gs before hval0 hW hcnd hsz0 _
  have hval : ∀ (j : Nat) t v, Tryz.f5.params[j]? = some t → args[j]? = some v → Value.okWide Tryz.prog W .any base t v := hval0
  have hW' := hW
  obtain ⟨p, q, hA0, hV, rfl, hfz, hnd⟩ := hW
  have hA : DataW.TrodAll enc Tryz.prog W 0 (fun _ => true) true Tryz.f5.params.toList args.toList ds p := hA0
  rw [Tryz.params5] at hA hval
  obtain ⟨v0, vs0, d0, ds0, p0, q0, hargs0, rfl, rfl, h0, r0⟩ := trodAll_cons hA
  obtain ⟨v1, vs1, d1, ds1, p1, q1, hargs1, rfl, rfl, h1, r1⟩ := trodAll_cons r0
  obtain ⟨v2, vs2, d2, ds2, p2, q2, hargs2, rfl, rfl, h2, r2⟩ := trodAll_cons r1
  obtain ⟨v3, vs3, d3, ds3, p3, q3, hargs3, rfl, rfl, h3, r3⟩ := trodAll_cons r2
  obtain ⟨v4, vs4, d4, ds4, p4, q4, hargs4, rfl, rfl, h4, r4⟩ := trodAll_cons r3
  obtain ⟨v5, vs5, d5, ds5, p5, q5, hargs5, rfl, rfl, h5, r5⟩ := trodAll_cons r4
  obtain ⟨rfl, rfl, rfl⟩ := trodAll_nil r5
  obtain rfl : args = #[v0, v1, v2, v3, v4, v5] := by cases args; simp_all
  obtain ⟨rfl, rfl⟩ := trodVars_none hV
  have hv0 := hval 0 24 v0 rfl rfl
  obtain ⟨fu0, hfu0⟩ := id h0
  obtain ⟨us0, rfl⟩ : ∃ us, v0 = .agg us := by cases v0 <;> first | exact ⟨_, rfl⟩ | (simp [Value.okWide, Tryz.underlying24, Cell.okWide, Cell.ok] at hv0)
  obtain ⟨x, hr0, x_wf⟩ := opR_Land (F := fun b => b < W.heap.size) (fun b hb => hb) hfu0
  have hlt0 : ∀ x ∈ p0, x.block < W.heap.size := fun x hx => hW'.lt x (by simp [hx])
  have hv1 := hval 1 3 v1 rfl rfl
  obtain ⟨fu1, hfu1⟩ := id h1
  have hc1 : v1.cells.toList = [v1] := by cases v1 <;> first | rfl | (simp [Value.okWide, Tryz.underlying3, Cell.okWide, Cell.ok] at hv1)
  rw [hc1] at hfu1
  obtain ⟨base, he1, hn1⟩ := opn_int und_int hfu1
  obtain rfl := List.head_eq_of_cons_eq he1
  have hlt1 : ∀ x ∈ p1, x.block < W.heap.size := fun x hx => hW'.lt x (by simp [hx])
  have hv2 := hval 2 26 v2 rfl rfl
  obtain ⟨fu2, hfu2⟩ := id h2
  obtain ⟨us2, rfl⟩ : ∃ us, v2 = .agg us := by cases v2 <;> first | exact ⟨_, rfl⟩ | (simp [Value.okWide, Tryz.underlying26, Cell.okWide, Cell.ok] at hv2)
  obtain ⟨r, hr2, r_wf⟩ := opR_Rule (F := fun b => b < W.heap.size) (fun b hb => hb) hfu2
  have hlt2 : ∀ x ∈ p2, x.block < W.heap.size := fun x hx => hW'.lt x (by simp [hx])
  have hv3 := hval 3 27 v3 rfl rfl
  obtain ⟨fu3, hfu3⟩ := id h3
  have hc3 : v3.cells.toList = [v3] := by cases v3 <;> first | rfl | (simp [Value.okWide, Tryz.underlying27, Cell.okWide, Cell.ok] at hv3)
  rw [hc3] at hfu3
  obtain ⟨u3, l, he3, _, hr3, hm3, hw3⟩ := opS_Depot (F := fun b => b < W.heap.size) (fun b hb => hb) hfu3
  obtain rfl := List.head_eq_of_cons_eq he3
  have hlt3 : ∀ x ∈ p3, x.block < W.heap.size := fun x hx => hW'.lt x (by simp [hx])
  have hv4 := hval 4 31 v4 rfl rfl
  obtain ⟨fu4, hfu4⟩ := id h4
  obtain ⟨us4, rfl⟩ : ∃ us, v4 = .agg us := by cases v4 <;> first | exact ⟨_, rfl⟩ | (simp [Value.okWide, Tryz.underlying31, Cell.okWide, Cell.ok] at hv4)
  obtain ⟨p, hr4, p_wf⟩ := opR_Party (F := fun b => b < W.heap.size) (fun b hb => hb) hfu4
  have hlt4 : ∀ x ∈ p4, x.block < W.heap.size := fun x hx => hW'.lt x (by simp [hx])
  have hv5 := hval 5 3 v5 rfl rfl
  obtain ⟨fu5, hfu5⟩ := id h5
  have hc5 : v5.cells.toList = [v5] := by cases v5 <;> first | rfl | (simp [Value.okWide, Tryz.underlying3, Cell.okWide, Cell.ok] at hv5)
  rw [hc5] at hfu5
  obtain ⟨n, he5, hn5⟩ := opn_int und_int hfu5
  obtain rfl := List.head_eq_of_cons_eq he5
  have hlt5 : ∀ x ∈ p5, x.block < W.heap.size := fun x hx => hW'.lt x (by simp [hx])
  refine (law_calls (law_LayStep x base r l p n x_wf (I64.of hn1) r_wf hm3 hw3 p_wf (I64.of hn5)) rfl ?_).mono fun e W' ⟨he, bel⟩ => ?_
  · intro i x u hx hu
    rcases i with _ | i
    · simp only [List.getElem?_cons_zero, List.getElem?_cons_succ, Option.some.injEq] at hx hu
      subst hx; subst hu; exact ⟨us0.toList, by simp, hr0⟩
    rcases i with _ | i
    · simp only [List.getElem?_cons_zero, List.getElem?_cons_succ, Option.some.injEq] at hx hu
      subst hx; subst hu; exact ⟨rfl, rfl⟩
    rcases i with _ | i
    · simp only [List.getElem?_cons_zero, List.getElem?_cons_succ, Option.some.injEq] at hx hu
      subst hx; subst hu; exact ⟨us2.toList, by simp, hr2⟩
    rcases i with _ | i
    · simp only [List.getElem?_cons_zero, List.getElem?_cons_succ, Option.some.injEq] at hx hu
      subst hx; subst hu; exact hr3
    rcases i with _ | i
    · simp only [List.getElem?_cons_zero, List.getElem?_cons_succ, Option.some.injEq] at hx hu
      subst hx; subst hu; exact ⟨us4.toList, by simp, hr4⟩
    rcases i with _ | i
    · simp only [List.getElem?_cons_zero, List.getElem?_cons_succ, Option.some.injEq] at hx hu
      subst hx; subst hu; exact ⟨rfl, rfl⟩
    simp at hx
  subst he
  exact ⟨_, rfl, _, _, _, [], _, [], hW', trodAll_mk1 (shut_bool Tryz.underlying4 _), (trodAll_cons_mk (Below.trod laid (by kernel_rfl) (of_decide_eq_true (by kernel_rfl)) h0 bel hlt0) (trodAll_cons_mk (Below.trod laid (by kernel_rfl) (of_decide_eq_true (by kernel_rfl)) h1 bel hlt1) (trodAll_cons_mk (Below.trod laid (by kernel_rfl) (of_decide_eq_true (by kernel_rfl)) h2 bel hlt2) (trodAll_cons_mk (Below.trod laid (by kernel_rfl) (of_decide_eq_true (by kernel_rfl)) h3 bel hlt3) (trodAll_cons_mk (Below.trod laid (by kernel_rfl) (of_decide_eq_true (by kernel_rfl)) h4 bel hlt4) (trodAll_cons_mk (Below.trod laid (by kernel_rfl) (of_decide_eq_true (by kernel_rfl)) h5 bel hlt5) trodAll_mk0)))))), rfl, bel.frame _, fun h => by cases h⟩
theorem over : Rows.fnExactLayStepRow.holds Tryz.pinned (OpenSpec.ofChange Rows.fnExactLayStepSpec) :=
  OpenClaim.holds_of_wide 5 Tryz.f5 rfl rfl rfl rfl rfl rfl rfl ⟨rfl, rfl, rfl, rfl, rfl⟩ rfl rfl rfl rfl rfl (by kernel_rfl) Tryz.func5 (by kernel_rfl)
    (of_decide_eq_true (by kernel_rfl)) (by unfold Func.isWrapper; first | (rw [if_pos (by decide +kernel)]; kernel_rfl) | (rw [if_neg (by decide +kernel)]; exact ⟨rfl, rfl⟩))
    (fun os started H enc _ => lifted os started H enc)
theorem proved : Rows.FnExactLayStepSaid := over
#print axioms proved
end Go.Proofs.YtlhlgcghfidglaaGreat.fnExactLayStep
namespace Go.Proofs.YtlhlgcghfidglaaGreat
/-- The row, under a short name, for the claim. -/
theorem fnExactLayStep_holds : Rows.FnExactLayStepSaid := fnExactLayStep.proved
end Go.Proofs.YtlhlgcghfidglaaGreat
