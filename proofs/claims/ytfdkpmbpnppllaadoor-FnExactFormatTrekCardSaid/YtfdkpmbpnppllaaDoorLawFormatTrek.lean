/- The law FnExactFormatTrek: for every input it returns true, and each argument reads afterwards as before. No condition. -/
import Derived.Test.YtfdkpmbpnppllaaDoorRows
import Derived.Test.YtfdkpmbpnppllaaDoorCards
import Derived.Test.YtfdkpmbpnppllaaDoorTie
import Derived.Test.YtfdkpmbpnppllaaDoorARowZ
import Derived.SevenTiedAt
import Derived.LaidMore
import Derived.Handed
import Derived.Test.YtfdkpmbpnppllaaDoorARowD
import Derived.Test.YtfdkpmbpnppllaaDoorAProgF
import Derived.Test.YtfdkpmbpnppllaaDoorALFormatTrek
import Derived.WalkKit
import Derived.ProofKit
import Derived.OpenShut
import Derived.ShutString
import Derived.ChangeOld
import Derived.Below
import Derived.SizedLaws
import Derived.Carry
namespace Go.Proofs.YtfdkpmbpnppllaaDoor.fnExactFormatTrek
open Go.ChangeShapes Go.WideShapes Go.ChangeAt Go.RowKit Go.Abs
set_option linter.unusedVariables false
set_option linter.unusedSimpArgs false
theorem own : ownKnob Tryd.prog.godebug = none := by kernel_rfl
theorem laid : laidOutB Tryd.prog = true := by kernel_rfl
set_option maxRecDepth 100000 in
theorem lifted (os : Os) (started : os.Started) (H : Type) (enc : TypeId × Value → H) :
    ReturnsInHanded {} Tryd.checked os 7 .any (fun w args => (Rows.fnExactFormatTrekSpec.pre enc Tryd.prog Tryd.f7 [] false w args ∧ laidMetH Tryd.prog Rows.fnExactFormatTrekRow.laid w) ∧ sizedMet enc Tryd.prog Tryd.f7 (OpenSpec.ofChange Rows.fnExactFormatTrekSpec) false w args)
      (Rows.fnExactFormatTrekSpec.post enc Tryd.prog Tryd.f7 false true false false) := by
  refine returnsInHanded_of_change_and (C := Tryd.checked) (X := fun w _ => laidMetH Tryd.prog Rows.fnExactFormatTrekRow.laid w) (fun _ _ _ hh h => h.of_heap hh) own started (by kernel_rfl) Tryd.func7
    (ChangeSpec.witness_shaped (enc := enc) (C := Tryd.checked) (os := os) (X := fun w _ => laidMetH Tryd.prog Rows.fnExactFormatTrekRow.laid w) false (World.doorLaid Tryd.prog 400 os) #[.agg #[.int .i64 0, .int .i64 0, .slice none 0 0, .int .i64 0, .int .i64 0, .int .i64 0, .slice none 0 0, .int .i64 0, .int .i64 0, .slice none 0 0, .slice none 0 0, .slice none 0 0, .int .i64 0, .int .i64 0, .int .i64 0]] 8 rfl (World.shaped_of_RefB (by kernel_rfl) (by kernel_rfl)) (by kernel_rfl) (by kernel_rfl) (by kernel_rfl) (door_met os _)) ?_
  intro W base args ds gs before hval0 hW _ _ hL _
  have hval : ∀ (j : Nat) t v, Tryd.f7.params[j]? = some t → args[j]? = some v → Value.okWide Tryd.prog W .any base t v := hval0
  have hW' := hW
  obtain ⟨p, q, hA0, hV, rfl, hfz, hnd⟩ := hW
  have hA : DataW.TrodAll enc Tryd.prog W 0 (fun _ => true) true Tryd.f7.params.toList args.toList ds p := hA0
  rw [Tryd.params7] at hA hval
  obtain ⟨v0, vs0, d0, ds0, p0, q0, hargs0, rfl, rfl, h0, r0⟩ := trodAll_cons hA
  obtain ⟨rfl, rfl, rfl⟩ := trodAll_nil r0
  obtain rfl : args = #[v0] := by cases args; simp_all
  obtain ⟨rfl, rfl⟩ := trodVars_none hV
  have hv0 := hval 0 56 v0 rfl rfl
  obtain ⟨fu0, hfu0⟩ := id h0
  obtain ⟨us0, rfl⟩ : ∃ us, v0 = .agg us := by cases v0 <;> first | exact ⟨_, rfl⟩ | (simp [Value.okWide, Tryd.underlying56, Cell.okWide, Cell.ok] at hv0)
  obtain ⟨t, hr0, t_wf⟩ := opR_Trek (F := fun b => b < W.heap.size) (fun b hb => hb) hfu0
  have hlt0 : ∀ x ∈ p0, x.block < W.heap.size := fun x hx => hW'.lt x (by simp [hx])
  refine (law_calls (law_FormatTrek t t_wf) (z_of hL) rfl ?_).mono fun e W' ⟨he, bel⟩ => ?_
  · intro i x u hx hu
    rcases i with _ | i
    · simp only [List.getElem?_cons_zero, List.getElem?_cons_succ, Option.some.injEq] at hx hu
      subst hx; subst hu; exact ⟨us0.toList, by simp, hr0⟩
    simp at hx
  subst he
  exact ⟨_, rfl, _, _, _, [], _, [], hW', trodAll_mk1 (shut_bool Tryd.underlying4 _), (trodAll_cons_mk (Below.trod laid (by kernel_rfl) (of_decide_eq_true (by kernel_rfl)) h0 bel hlt0) trodAll_mk0), rfl, bel.frame _, fun h => by cases h⟩
theorem unf : Tryd.pinned.checked.prog.unfollowed 7 = false := by kernel_rfl
theorem inp : Tryd.pinned.checked.prog.inPlace 7 = Rows.fnExactFormatTrekRow.inPlace := by kernel_rfl
theorem vars : Tryd.pinned.checked.prog.varsNamed 7 = Rows.fnExactFormatTrekRow.named := by kernel_rfl
theorem closed : joinedFacts Tryd.pinned.checked.prog 7 Tryd.f7 Rows.fnExactFormatTrekSpec Rows.fnExactFormatTrekRow = true := by
  have hr : Tryd.pinned.checked.prog.recurses 7 = false := recurses_rank _ unf pf_rank
  unfold joinedFacts
  rw [unf, inp, vars, hr, pf_laid, pf_stops, pf_knobs, pf_lifts, pf_plain, pf_heard, pf_enter, pf_make]
  refine eq_idb ?_
  kernel_rfl
theorem over : Rows.fnExactFormatTrekRow.holds Tryd.pinned (OpenSpec.ofChange Rows.fnExactFormatTrekSpec) :=
  OpenClaim.holds_of_wide 7 Tryd.f7 rfl rfl rfl rfl rfl rfl rfl ⟨rfl, rfl, rfl, rfl, rfl⟩ rfl rfl rfl rfl rfl (by kernel_rfl) Tryd.func7 closed
    (of_decide_eq_true (by kernel_rfl)) (by unfold Func.isWrapper; first | (rw [if_pos (by decide +kernel)]; kernel_rfl) | (rw [if_neg (by decide +kernel)]; exact ⟨rfl, rfl⟩))
    (fun os started H enc _ => lifted os started H enc)
theorem named : Tryd.prog.funcNamed Rows.fnExactFormatTrekRow.func = some 7 := by kernel_rfl
theorem proved : Rows.FnExactFormatTrekCardSaid :=
  Claim7.holds_tied_plain_at .later [] [.data, .data, .data] true (true, "4caaead741a571749087ee861fc29be4f4617894ed961ce92df52c7bd68c2207") false
    over (fun _ h => by cases h) (by kernel_rfl) (fun _ h => by cases h) fnExactFormatTrek_row_tie rfl ⟨rfl, rfl⟩ (by kernel_rfl) rfl
    (fun f fn hf hfn => by
      obtain rfl : f = 7 := Option.some.inj (named.symm.trans hf) |>.symm
      obtain rfl : fn = Tryd.f7 := (Option.some.inj (Tryd.func7.symm.trans hfn)).symm
      exact ⟨by kernel_rfl, fun j t ht => by
        rw [Tryd.params7] at ht
        have hm : t ∈ ([56] : List Nat) := by simpa using Array.mem_of_getElem? ht
        have hall : (([56] : List Nat).all fun u => !Tryd.prog.wantsStandIn u) = true := by kernel_rfl
        exact (show Tryd.prog.wantsStandIn t = false by simpa using List.all_eq_true.1 hall t hm)⟩)
    (by kernel_rfl)
#print axioms proved
end Go.Proofs.YtfdkpmbpnppllaaDoor.fnExactFormatTrek
namespace Go.Proofs.YtfdkpmbpnppllaaDoor
/-- The card, under a short name, for the claim. -/
theorem fnExactFormatTrek_holds : Rows.FnExactFormatTrekCardSaid := fnExactFormatTrek.proved
end Go.Proofs.YtfdkpmbpnppllaaDoor
