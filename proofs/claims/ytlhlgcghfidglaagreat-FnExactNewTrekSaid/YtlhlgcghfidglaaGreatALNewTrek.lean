/- The law FnExactNewTrek: its walk. -/
import Derived.Test.YtlhlgcghfidglaaGreatATrekH
namespace Go.Abs
open Go.RowKit Go.Proofs
set_option linter.unusedVariables false
set_option linter.unusedSimpArgs false
set_option maxRecDepth 100000
set_option maxHeartbeats 4000000

theorem law_NewTrek (x : DLand) (base : Int) (r : DRule) (crew : List DMember) (x_wf : x.wf) (base_64 : I64 base) (r_wf : r.wf) (crew_max : crew.length ≤ maxLen) (crew_wf : ∀ p ∈ crew, p.wf) : SC Tryz.prog 9 [.ag x.ats, .at (.v (.int .i64 base)), .ag r.ats, .at (.im 4 (crew.map DMember.row))] [] (.at (.v (.bool true))) [] := by
  refine SC.of_V mixed Tryz.func9 (by kernel_rfl) rfl Tryz.results9 _ Tryz.ntmps9 (by simp) ?_
  simp -implicitDefEqProofs only [go_sem]
  refine callX [] (laws_szLand x 1048576 (by omega) (by omega) x_wf) (by simp -implicitDefEqProofs only [go_sem]) ?_
  simp -implicitDefEqProofs only [go_sem]
  intro sh1
  have si1 := szL_in sh1 (by omega)
  have sp1 := szL_pos sh1
  refine callX [] (laws_szMemberS crew (szL x.cells.length 1048576) si1.1 si1.2 crew_max) (by simp -implicitDefEqProofs only [go_sem]) ?_
  simp -implicitDefEqProofs only [go_sem]
  intro sh2
  have si2 := szL_in sh2 si1.2
  have sp2 := szL_pos sh2
  refine ⟨true, by decide +kernel, ?_⟩
  simp -implicitDefEqProofs only [go_sem]
  refine callXQ [] ((laws_toLand x (by omega)).frozen) (by simp -implicitDefEqProofs only [go_sem]) ?_
  simp -implicitDefEqProofs only [go_sem]
  refine callXQ [] ((laws_toRule r).frozen) (by simp -implicitDefEqProofs only [go_sem]) ?_
  simp -implicitDefEqProofs only [go_sem]
  refine callXQ [] ((laws_toMemberS crew (by omega)).frozen) (by simp -implicitDefEqProofs only [go_sem]) ?_
  simp -implicitDefEqProofs only [go_sem]
  refine callXQ [] ((spec_NewTrek x base r crew (by omega) (by omega)).frozen) (by simp -implicitDefEqProofs only [go_sem]) ?_
  simp -implicitDefEqProofs only [go_sem]
  refine callX [] (laws_toLand x (by omega)) (by simp -implicitDefEqProofs only [go_sem]) ?_
  simp -implicitDefEqProofs only [go_sem]
  refine callX [] (laws_toMemberS crew (by omega)) (by simp -implicitDefEqProofs only [go_sem]) ?_
  simp -implicitDefEqProofs only [go_sem]
  refine ⟨true, by decide +kernel, ?_⟩
  simp -implicitDefEqProofs only [go_sem]
  refine callXQ [] ((laws_toRule r).frozen) (by simp -implicitDefEqProofs only [go_sem]) ?_
  simp -implicitDefEqProofs only [go_sem]
  refine callXQ [1688, 1720] (impl_NewTrek x base r crew (by omega) (by omega)) (by simp -implicitDefEqProofs only [go_sem]) ?_
  simp -implicitDefEqProofs only [go_sem]
  have hres1 : (newTrekZ x base r crew).land.cells.length ≤ 1099511627776 := (newTrekZ_cells (by omega))
  have hres2 : (newTrekZ x base r crew).depots.length ≤ 1099511627776 := newTrekZ_depots
  have hres3 : (newTrekZ x base r crew).party.crew.length ≤ 1099511627776 := (newTrekZ_crew (by omega))
  have hres4 : (newTrekZ x base r crew).party.past.length ≤ 1099511627776 := newTrekZ_past
  have hres5 : (newTrekZ x base r crew).journal.length ≤ 1099511627776 := newTrekZ_journal
  refine callX [1832, 1833, 1834, 1835, 1836] (laws_eqTrek (newTrekZ x base r crew) (newTrekZ x base r crew) (newTrekZ_cells (by omega)) newTrekZ_depots (newTrekZ_crew (by omega)) newTrekZ_past newTrekZ_journal) (by simp -implicitDefEqProofs only [go_sem]) ?_
  simp -implicitDefEqProofs only [go_sem]
  refine ⟨true, by decide +kernel, ?_⟩
  simp -implicitDefEqProofs only [go_sem]
  refine callXQ [] ((laws_toLand x (by omega)).frozen) (by simp -implicitDefEqProofs only [go_sem]) ?_
  simp -implicitDefEqProofs only [go_sem]
  refine callXQ [1688] (laws_eqLand x x (by omega)) (by simp -implicitDefEqProofs only [go_sem]) ?_
  simp -implicitDefEqProofs only [go_sem]
  refine callX [] ((laws_toMemberS crew (by omega)).frozen) (by simp -implicitDefEqProofs only [go_sem]) ?_
  simp -implicitDefEqProofs only [go_sem]
  refine callX [1720] (laws_eqMemberS crew crew (by omega)) (by simp -implicitDefEqProofs only [go_sem]) ?_
  simp -implicitDefEqProofs only [go_sem]
  refine callXM [1688] (laws_markLand x (1) (by omega) (by omega) (by omega)) (by decide) (by simp -implicitDefEqProofs only [go_sem]) ?_
  simp -implicitDefEqProofs only [go_sem]
  refine callXM [1720] (laws_markMemberS crew (1 + 1 * x.cells.length) (by omega) (by omega) (by omega)) (by decide) (by simp -implicitDefEqProofs only [go_sem]) ?_
  simp -implicitDefEqProofs only [go_sem]
  refine ⟨fun _ => ?_, by omega⟩
  refine callX [1832, 1833, 1834, 1835, 1836] (laws_eqTrek (newTrekZ x base r crew) (newTrekZ x base r crew) (newTrekZ_cells (by omega)) newTrekZ_depots (newTrekZ_crew (by omega)) newTrekZ_past newTrekZ_journal) (by simp -implicitDefEqProofs only [go_sem]) ?_
  simp -implicitDefEqProofs only [go_sem]
  refine callXM [1832, 1833, 1834, 1835, 1836] (laws_markTrek (newTrekZ x base r crew) (1) (by omega) (by omega) (newTrekZ_cells (by omega)) newTrekZ_depots (newTrekZ_crew (by omega)) newTrekZ_past newTrekZ_journal) (by decide) (by simp -implicitDefEqProofs only [go_sem]) ?_
  simp -implicitDefEqProofs only [go_sem]
  refine callX [1832, 1833, 1834, 1835, 1836] (laws_heldTrek (newTrekZ x base r crew) (1) (by omega) (by omega) (newTrekZ_cells (by omega)) newTrekZ_depots (newTrekZ_crew (by omega)) newTrekZ_past newTrekZ_journal) (by simp -implicitDefEqProofs only [go_sem]) ?_
  simp -implicitDefEqProofs only [go_sem]
  refine ⟨by omega, fun _ => ?_⟩
  refine ⟨true, by decide +kernel, ?_⟩
  simp -implicitDefEqProofs only [go_sem]
  refine callXQ [] ((laws_toLand x (by omega)).frozen) (by simp -implicitDefEqProofs only [go_sem]) ?_
  simp -implicitDefEqProofs only [go_sem]
  refine callXQ [] ((laws_toRule r).frozen) (by simp -implicitDefEqProofs only [go_sem]) ?_
  simp -implicitDefEqProofs only [go_sem]
  refine callXQ [] ((laws_toMemberS crew (by omega)).frozen) (by simp -implicitDefEqProofs only [go_sem]) ?_
  simp -implicitDefEqProofs only [go_sem]
  refine callXQ [] ((impl_NewTrek x base r crew (by omega) (by omega)).frozen) (by simp -implicitDefEqProofs only [go_sem]) ?_
  simp -implicitDefEqProofs only [go_sem]
  refine callX [] (laws_eqTrek (newTrekZ x base r crew) (newTrekZ x base r crew) (newTrekZ_cells (by omega)) newTrekZ_depots (newTrekZ_crew (by omega)) newTrekZ_past newTrekZ_journal) (by simp -implicitDefEqProofs only [go_sem]) ?_
  simp -implicitDefEqProofs only [go_sem]
  refine callX [1832, 1833, 1834, 1835, 1836] (laws_heldTrek (newTrekZ x base r crew) (1) (by omega) (by omega) (newTrekZ_cells (by omega)) newTrekZ_depots (newTrekZ_crew (by omega)) newTrekZ_past newTrekZ_journal) (by simp -implicitDefEqProofs only [go_sem]) ?_
  simp -implicitDefEqProofs only [go_sem]
  omega
end Go.Abs
