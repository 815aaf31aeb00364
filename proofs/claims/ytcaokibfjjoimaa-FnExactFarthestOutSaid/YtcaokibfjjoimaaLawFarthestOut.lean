/- The law FnExactFarthestOut: for every input it returns true, and each argument reads afterwards as before. No condition. -/
import Derived.Test.YtcaokibfjjoimaaRows
import Derived.Test.YtcaokibfjjoimaaARowD
import Derived.Test.YtcaokibfjjoimaaALFarthestOut
import Derived.WalkKit
import Derived.ProofKit
import Derived.OpenShut
import Derived.ShutString
import Derived.ChangeOld
import Derived.Below
import Derived.SizedLaws
import Derived.Carry
namespace Go.Proofs.Ytcaokibfjjoimaa.fnExactFarthestOut
open Go.ChangeShapes Go.WideShapes Go.ChangeAt Go.RowKit Go.Abs
set_option linter.unusedVariables false
set_option linter.unusedSimpArgs false
theorem own : ownKnob Try.prog.godebug = none := by kernel_rfl
theorem laid : laidOutB Try.prog = true := by kernel_rfl
set_option maxRecDepth 100000 in
theorem lifted (os : Os) (started : os.Started) (H : Type) (enc : TypeId × Value → H) :
    ReturnsInHanded {} Try.checked os 14 .any (Rows.fnExactFarthestOutSpec.pre6 enc Try.prog Try.f14 Rows.fnExactFarthestOutRow.domain false) (Rows.fnExactFarthestOutSpec.post enc Try.prog Try.f14 false true false false) := by
  refine returnsInHanded_of_change_sized (C := Try.checked) own started (by kernel_rfl) Try.func14
    (ChangeSpec.witness6 (enc := enc) (C := Try.checked) false ⟨#[], #[.agg #[.int .i64 0, .int .i64 0, .slice none 0 0], .int .i64 0, .slice none 0 0], []⟩ 8 (by kernel_rfl) (by kernel_rfl) (by kernel_rfl) (by kernel_rfl)) ?_
  intro W base args ds gs before hval0 hW hcnd hsz0 _
  have hval : ∀ (j : Nat) t v, Try.f14.params[j]? = some t → args[j]? = some v → Value.okWide Try.prog W .any base t v := hval0
  have hW' := hW
  obtain ⟨p, q, hA0, hV, rfl, hfz, hnd⟩ := hW
  have hA : DataW.TrodAll enc Try.prog W 0 (fun _ => true) true Try.f14.params.toList args.toList ds p := hA0
  rw [Try.params14] at hA hval
  obtain ⟨v0, vs0, d0, ds0, p0, q0, hargs0, rfl, rfl, h0, r0⟩ := trodAll_cons hA
  obtain ⟨v1, vs1, d1, ds1, p1, q1, hargs1, rfl, rfl, h1, r1⟩ := trodAll_cons r0
  obtain ⟨v2, vs2, d2, ds2, p2, q2, hargs2, rfl, rfl, h2, r2⟩ := trodAll_cons r1
  obtain ⟨rfl, rfl, rfl⟩ := trodAll_nil r2
  obtain rfl : args = #[v0, v1, v2] := by cases args; simp_all
  obtain ⟨rfl, rfl⟩ := trodVars_none hV
  have hv0 := hval 0 45 v0 rfl rfl
  obtain ⟨fu0, hfu0⟩ := id h0
  obtain ⟨us0, rfl⟩ : ∃ us, v0 = .agg us := by cases v0 <;> first | exact ⟨_, rfl⟩ | (simp [Value.okWide, Try.underlying45, Cell.okWide, Cell.ok] at hv0)
  obtain ⟨x, hr0, x_wf⟩ := opR_Land (F := fun b => b < W.heap.size) (fun b hb => hb) hfu0
  have hlt0 : ∀ x ∈ p0, x.block < W.heap.size := fun x hx => hW'.lt x (by simp [hx])
  have hv1 := hval 1 3 v1 rfl rfl
  obtain ⟨fu1, hfu1⟩ := id h1
  have hc1 : v1.cells.toList = [v1] := by cases v1 <;> first | rfl | (simp [Value.okWide, Try.underlying3, Cell.okWide, Cell.ok] at hv1)
  rw [hc1] at hfu1
  obtain ⟨base, he1, hn1⟩ := opn_int und_int hfu1
  obtain rfl := List.head_eq_of_cons_eq he1
  have hlt1 : ∀ x ∈ p1, x.block < W.heap.size := fun x hx => hW'.lt x (by simp [hx])
  have hv2 := hval 2 36 v2 rfl rfl
  obtain ⟨fu2, hfu2⟩ := id h2
  have hc2 : v2.cells.toList = [v2] := by cases v2 <;> first | rfl | (simp [Value.okWide, Try.underlying36, Cell.okWide, Cell.ok] at hv2)
  rw [hc2] at hfu2
  obtain ⟨u2, l, he2, _, hr2, hm2, hw2⟩ := opS_Page (F := fun b => b < W.heap.size) (fun b hb => hb) hfu2
  obtain rfl := List.head_eq_of_cons_eq he2
  have hlt2 : ∀ x ∈ p2, x.block < W.heap.size := fun x hx => hW'.lt x (by simp [hx])
  refine (law_calls (law_FarthestOut x base l x_wf (I64.of hn1) hm2 hw2) rfl ?_).mono fun e W' ⟨he, bel⟩ => ?_
  · intro i x u hx hu
    rcases i with _ | i
    · simp only [List.getElem?_cons_zero, List.getElem?_cons_succ, Option.some.injEq] at hx hu
      subst hx; subst hu; exact ⟨us0.toList, by simp, hr0⟩
    rcases i with _ | i
    · simp only [List.getElem?_cons_zero, List.getElem?_cons_succ, Option.some.injEq] at hx hu
      subst hx; subst hu; exact ⟨rfl, rfl⟩
    rcases i with _ | i
    · simp only [List.getElem?_cons_zero, List.getElem?_cons_succ, Option.some.injEq] at hx hu
      subst hx; subst hu; exact hr2
    simp at hx
  subst he
  exact ⟨_, rfl, _, _, _, [], _, [], hW', trodAll_mk1 (shut_bool Try.underlying4 _), (trodAll_cons_mk (Below.trod laid (by kernel_rfl) (of_decide_eq_true (by kernel_rfl)) h0 bel hlt0) (trodAll_cons_mk (Below.trod laid (by kernel_rfl) (of_decide_eq_true (by kernel_rfl)) h1 bel hlt1) (trodAll_cons_mk (Below.trod laid (by kernel_rfl) (of_decide_eq_true (by kernel_rfl)) h2 bel hlt2) trodAll_mk0))), rfl, bel.frame _, fun h => by cases h⟩
theorem over : Rows.fnExactFarthestOutRow.holds Try.pinned (OpenSpec.ofChange Rows.fnExactFarthestOutSpec) :=
  OpenClaim.holds_of_wide 14 Try.f14 rfl rfl rfl rfl rfl rfl rfl ⟨rfl, rfl, rfl, rfl, rfl⟩ rfl rfl rfl rfl rfl (by kernel_rfl) Try.func14 (by kernel_rfl)
    (of_decide_eq_true (by kernel_rfl)) (by unfold Func.isWrapper; first | (rw [if_pos (by decide +kernel)]; kernel_rfl) | (rw [if_neg (by decide +kernel)]; exact ⟨rfl, rfl⟩))
    (fun os started H enc _ => lifted os started H enc)
theorem proved : Rows.FnExactFarthestOutSaid := over
#print axioms proved
end Go.Proofs.Ytcaokibfjjoimaa.fnExactFarthestOut
namespace Go.Proofs.Ytcaokibfjjoimaa
/-- The row, under a short name, for the claim. -/
theorem fnExactFarthestOut_holds : Rows.FnExactFarthestOutSaid := fnExactFarthestOut.proved
end Go.Proofs.Ytcaokibfjjoimaa
