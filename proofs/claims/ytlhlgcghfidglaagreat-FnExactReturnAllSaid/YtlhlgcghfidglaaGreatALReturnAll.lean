/- The law FnExactReturnAll: its walk. -/
import Derived.Test.YtlhlgcghfidglaaGreatAAll
namespace Go.Abs
open Go.RowKit Go.Proofs
set_option linter.unusedVariables false
set_option linter.unusedSimpArgs false
set_option maxRecDepth 100000
set_option maxHeartbeats 4000000

theorem law_ReturnAll (x : DLand) (base : Int) (r : DRule) (l : List DDepot) (p : DParty) (storms : List Bool) (x_wf : x.wf) (base_64 : I64 base) (r_wf : r.wf) (l_max : l.length ≤ maxLen) (l_wf : ∀ p ∈ l, p.wf) (p_wf : p.wf) (storms_max : storms.length ≤ maxLen) (storms_wf : ∀ p ∈ storms, True) : SC Tryz.prog 6 [.ag x.ats, .at (.v (.int .i64 base)), .ag r.ats, .at (.im 2 (l.map DDepot.row)), .ag p.ats, .at (.im 1 (storms.map boolRow))] [] (.at (.v (.bool true))) [] := by
  refine SC.of_V mixed Tryz.func6 (by kernel_rfl) rfl Tryz.results6 _ Tryz.ntmps6 (by simp) ?_
  simp -implicitDefEqProofs only [go_sem]
  intro hstr
  refine callX [] (laws_szLand x 1048576 (by omega) (by omega) x_wf) (by simp -implicitDefEqProofs only [go_sem]) ?_
  simp -implicitDefEqProofs only [go_sem]
  intro sh1
  have si1 := szL_in sh1 (by omega)
  have sp1 := szL_pos sh1
  refine callX [] (laws_szDepotS l (szL x.cells.length 1048576) si1.1 si1.2 l_max) (by simp -implicitDefEqProofs only [go_sem]) ?_
  simp -implicitDefEqProofs only [go_sem]
  intro sh2
  have si2 := szL_in sh2 si1.2
  have sp2 := szL_pos sh2
  refine callX [] (laws_szParty p (szL l.length (szL x.cells.length 1048576)) si2.1 si2.2 p_wf) (by simp -implicitDefEqProofs only [go_sem]) ?_
  simp -implicitDefEqProofs only [go_sem]
  intro sh3
  have si3 := szL_in sh3 si2.2
  have sp3 := szL_pos sh3
  refine ⟨true, by decide +kernel, ?_⟩
  simp -implicitDefEqProofs only [go_sem]
  refine callXQ [] ((laws_toLand x (by omega)).frozen) (by simp -implicitDefEqProofs only [go_sem]) ?_
  simp -implicitDefEqProofs only [go_sem]
  refine callXQ [] ((laws_toRule r).frozen) (by simp -implicitDefEqProofs only [go_sem]) ?_
  simp -implicitDefEqProofs only [go_sem]
  refine callXQ [] ((laws_toDepotS l (by omega)).frozen) (by simp -implicitDefEqProofs only [go_sem]) ?_
  simp -implicitDefEqProofs only [go_sem]
  refine callXQ [] ((laws_toParty p (by omega) (by omega)).frozen) (by simp -implicitDefEqProofs only [go_sem]) ?_
  simp -implicitDefEqProofs only [go_sem]
  refine callXQ [] ((laws_toBoolS storms (by omega)).frozen) (by simp -implicitDefEqProofs only [go_sem]) ?_
  simp -implicitDefEqProofs only [go_sem]
  refine callXQ [] ((spec_ReturnAll x base r l p storms (by omega) (by omega) (by omega) (by omega) (by omega)).frozen) (by simp -implicitDefEqProofs only [go_sem]) ?_
  simp -implicitDefEqProofs only [go_sem]
  refine callX [] (laws_toLand x (by omega)) (by simp -implicitDefEqProofs only [go_sem]) ?_
  simp -implicitDefEqProofs only [go_sem]
  refine callX [] (laws_toDepotS l (by omega)) (by simp -implicitDefEqProofs only [go_sem]) ?_
  simp -implicitDefEqProofs only [go_sem]
  refine callX [] (laws_toParty p (by omega) (by omega)) (by simp -implicitDefEqProofs only [go_sem]) ?_
  simp -implicitDefEqProofs only [go_sem]
  refine callX [] (laws_toBoolS storms (by omega)) (by simp -implicitDefEqProofs only [go_sem]) ?_
  simp -implicitDefEqProofs only [go_sem]
  refine ⟨true, by decide +kernel, ?_⟩
  simp -implicitDefEqProofs only [go_sem]
  refine callXQ [] ((laws_toRule r).frozen) (by simp -implicitDefEqProofs only [go_sem]) ?_
  simp -implicitDefEqProofs only [go_sem]
  refine callXQ [2040, 2072, 2104, 2105, 2136] (impl_ReturnAll x base r l p storms (by omega) (by omega) (by omega) (by omega) (by omega)) (by simp -implicitDefEqProofs only [go_sem]) ?_
  simp -implicitDefEqProofs only [go_sem]
  have hres1 : (allZ x base r l p storms).1.crew.length ≤ 1099511627776 := (allZ_c (by omega))
  have hres2 : (allZ x base r l p storms).1.past.length ≤ 1099511627776 := (allZ_p (by omega) (by omega))
  have hres3 : (allZ x base r l p storms).2.1.length ≤ 1099511627776 := (allZ_l (by omega))
  refine callX [2280, 2281] (laws_eqParty (allZ x base r l p storms).1 (allZ x base r l p storms).1 (allZ_c (by omega)) (allZ_p (by omega) (by omega))) (by simp -implicitDefEqProofs only [go_sem]) ?_
  simp -implicitDefEqProofs only [go_sem]
  refine callX [2282] (laws_eqDepotS (allZ x base r l p storms).2.1 (allZ x base r l p storms).2.1 (allZ_l (by omega))) (by simp -implicitDefEqProofs only [go_sem]) ?_
  simp -implicitDefEqProofs only [go_sem]
  refine ⟨true, by decide +kernel, ?_⟩
  simp -implicitDefEqProofs only [go_sem]
  refine callXQ [] ((laws_toLand x (by omega)).frozen) (by simp -implicitDefEqProofs only [go_sem]) ?_
  simp -implicitDefEqProofs only [go_sem]
  refine callXQ [2040] (laws_eqLand x x (by omega)) (by simp -implicitDefEqProofs only [go_sem]) ?_
  simp -implicitDefEqProofs only [go_sem]
  refine callX [] ((laws_toDepotS l (by omega)).frozen) (by simp -implicitDefEqProofs only [go_sem]) ?_
  simp -implicitDefEqProofs only [go_sem]
  refine callX [2072] (laws_eqDepotS l l (by omega)) (by simp -implicitDefEqProofs only [go_sem]) ?_
  simp -implicitDefEqProofs only [go_sem]
  refine ⟨true, by decide +kernel, ?_⟩
  simp -implicitDefEqProofs only [go_sem]
  refine callXQ [] ((laws_toParty p (by omega) (by omega)).frozen) (by simp -implicitDefEqProofs only [go_sem]) ?_
  simp -implicitDefEqProofs only [go_sem]
  refine callXQ [2104, 2105] (laws_eqParty p p (by omega) (by omega)) (by simp -implicitDefEqProofs only [go_sem]) ?_
  simp -implicitDefEqProofs only [go_sem]
  refine callX [] ((laws_toBoolS storms (by omega)).frozen) (by simp -implicitDefEqProofs only [go_sem]) ?_
  simp -implicitDefEqProofs only [go_sem]
  refine callX [2136] (laws_eqBoolS storms storms (by omega)) (by simp -implicitDefEqProofs only [go_sem]) ?_
  simp -implicitDefEqProofs only [go_sem]
  refine callXM [2040] (laws_markLand x (1) (by omega) (by omega) (by omega)) (by decide) (by simp -implicitDefEqProofs only [go_sem]) ?_
  simp -implicitDefEqProofs only [go_sem]
  refine callXM [2072] (laws_markDepotS l (1 + 1 * x.cells.length) (by omega) (by omega) (by omega)) (by decide) (by simp -implicitDefEqProofs only [go_sem]) ?_
  simp -implicitDefEqProofs only [go_sem]
  refine callXM [2104, 2105] (laws_markParty p (1 + 1 * x.cells.length + 2 * l.length) (by omega) (by omega) (by omega) (by omega)) (by decide) (by simp -implicitDefEqProofs only [go_sem]) ?_
  simp -implicitDefEqProofs only [go_sem]
  refine callXM [2136] (laws_markBoolS storms (1 + 1 * x.cells.length + 2 * l.length + 4 * p.crew.length + 1 * p.past.length) (by omega) (by omega) (by omega)) (by decide) (by simp -implicitDefEqProofs only [go_sem]) ?_
  simp -implicitDefEqProofs only [go_sem]
  refine ⟨fun _ => ?_, by omega⟩
  refine callX [2280, 2281] (laws_eqParty (allZ x base r l p storms).1 (allZ x base r l p storms).1 (allZ_c (by omega)) (allZ_p (by omega) (by omega))) (by simp -implicitDefEqProofs only [go_sem]) ?_
  simp -implicitDefEqProofs only [go_sem]
  refine callX [2282] (laws_eqDepotS (allZ x base r l p storms).2.1 (allZ x base r l p storms).2.1 (allZ_l (by omega))) (by simp -implicitDefEqProofs only [go_sem]) ?_
  simp -implicitDefEqProofs only [go_sem]
  refine callXM [2280, 2281] (laws_markParty (allZ x base r l p storms).1 (1) (by omega) (by omega) (allZ_c (by omega)) (allZ_p (by omega) (by omega))) (by decide) (by simp -implicitDefEqProofs only [go_sem]) ?_
  simp -implicitDefEqProofs only [go_sem]
  refine callXM [2282] (laws_markDepotS (allZ x base r l p storms).2.1 (1 + 4 * (allZ x base r l p storms).1.crew.length + 1 * (allZ x base r l p storms).1.past.length) (by omega) (by omega) (allZ_l (by omega))) (by decide) (by simp -implicitDefEqProofs only [go_sem]) ?_
  simp -implicitDefEqProofs only [go_sem]
  refine callX [2280, 2281] (laws_heldParty (allZ x base r l p storms).1 (1) (by omega) (by omega) (allZ_c (by omega)) (allZ_p (by omega) (by omega))) (by simp -implicitDefEqProofs only [go_sem]) ?_
  simp -implicitDefEqProofs only [go_sem]
  refine ⟨by omega, fun _ => ?_⟩
  refine callX [2282] (laws_heldDepotS (allZ x base r l p storms).2.1.length (1 + 4 * (allZ x base r l p storms).1.crew.length + 1 * (allZ x base r l p storms).1.past.length) (by omega) (by omega) (allZ_l (by omega))) (by simp -implicitDefEqProofs only [go_sem]) ?_
  simp -implicitDefEqProofs only [go_sem]
  refine ⟨by omega, fun _ => ?_⟩
  refine ⟨true, by decide +kernel, ?_⟩
  simp -implicitDefEqProofs only [go_sem]
  refine callXQ [] ((laws_toLand x (by omega)).frozen) (by simp -implicitDefEqProofs only [go_sem]) ?_
  simp -implicitDefEqProofs only [go_sem]
  refine callXQ [] ((laws_toRule r).frozen) (by simp -implicitDefEqProofs only [go_sem]) ?_
  simp -implicitDefEqProofs only [go_sem]
  refine callXQ [] ((laws_toDepotS l (by omega)).frozen) (by simp -implicitDefEqProofs only [go_sem]) ?_
  simp -implicitDefEqProofs only [go_sem]
  refine callXQ [] ((laws_toParty p (by omega) (by omega)).frozen) (by simp -implicitDefEqProofs only [go_sem]) ?_
  simp -implicitDefEqProofs only [go_sem]
  refine callXQ [] ((laws_toBoolS storms (by omega)).frozen) (by simp -implicitDefEqProofs only [go_sem]) ?_
  simp -implicitDefEqProofs only [go_sem]
  refine callXQ [] ((impl_ReturnAll x base r l p storms (by omega) (by omega) (by omega) (by omega) (by omega)).frozen) (by simp -implicitDefEqProofs only [go_sem]) ?_
  simp -implicitDefEqProofs only [go_sem]
  refine callX [] (laws_eqParty (allZ x base r l p storms).1 (allZ x base r l p storms).1 (allZ_c (by omega)) (allZ_p (by omega) (by omega))) (by simp -implicitDefEqProofs only [go_sem]) ?_
  simp -implicitDefEqProofs only [go_sem]
  refine callX [] (laws_eqDepotS (allZ x base r l p storms).2.1 (allZ x base r l p storms).2.1 (allZ_l (by omega))) (by simp -implicitDefEqProofs only [go_sem]) ?_
  simp -implicitDefEqProofs only [go_sem]
  refine callX [2280, 2281] (laws_heldParty (allZ x base r l p storms).1 (1) (by omega) (by omega) (allZ_c (by omega)) (allZ_p (by omega) (by omega))) (by simp -implicitDefEqProofs only [go_sem]) ?_
  simp -implicitDefEqProofs only [go_sem]
  refine ⟨by omega, fun _ => ?_⟩
  refine callX [2282] (laws_heldDepotS (allZ x base r l p storms).2.1.length (1 + 4 * (allZ x base r l p storms).1.crew.length + 1 * (allZ x base r l p storms).1.past.length) (by omega) (by omega) (allZ_l (by omega))) (by simp -implicitDefEqProofs only [go_sem]) ?_
  simp -implicitDefEqProofs only [go_sem]
  omega
end Go.Abs
