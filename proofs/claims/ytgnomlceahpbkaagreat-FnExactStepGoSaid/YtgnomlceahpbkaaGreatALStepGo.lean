/- The law FnExactStepGo: its walk. -/
import Derived.Test.YtgnomlceahpbkaaGreatAEvt
namespace Go.Abs
open Go.RowKit Go.Proofs
set_option linter.unusedVariables false
set_option linter.unusedSimpArgs false
set_option maxRecDepth 100000
set_option maxHeartbeats 4000000

theorem law_StepGo (t : DTrek) (to : Int) (storm : Bool) (t_wf : t.wf) (to_64 : I64 to) : SC Tryz.prog 7 [.ag t.ats, .at (.v (.int .i64 to)), .at (.v (.bool storm))] [] (.at (.v (.bool true))) [] := by
  refine SC.of_V mixed Tryz.func7 (by kernel_rfl) rfl Tryz.results7 _ Tryz.ntmps7 (by simp) ?_
  simp -implicitDefEqProofs only [go_sem]
  refine callX [] (laws_szTrek t 1048576 (by omega) (by omega) t_wf) (by simp -implicitDefEqProofs only [go_sem]) ?_
  simp -implicitDefEqProofs only [go_sem]
  intro sh1
  have si1 := szL_in sh1 (by omega)
  have sp1 := szL_pos sh1
  refine callX [] ((laws_toTrek t (by omega)).frozen) (by simp -implicitDefEqProofs only [go_sem]) ?_
  simp -implicitDefEqProofs only [go_sem]
  refine callX [] ((spec_StepGo t to storm (sane_of (by omega) t_wf) to_64).frozen) (by simp -implicitDefEqProofs only [go_sem]) ?_
  simp -implicitDefEqProofs only [go_sem]
  refine callX [] (laws_toTrek t (by omega)) (by simp -implicitDefEqProofs only [go_sem]) ?_
  simp -implicitDefEqProofs only [go_sem]
  refine callX [1512, 1513, 1514, 1515, 1516] (impl_StepGo t to storm (sane_of (by omega) t_wf) to_64) (by simp -implicitDefEqProofs only [go_sem]) ?_
  simp -implicitDefEqProofs only [go_sem]
  have hres1 : (dayR t (goStepZ t.land t.base t.rule t.depots t.party to storm) t.depots (goStepP t.land t.base t.rule t.depots t.party to storm)).land.cells.length ≤ 1099511627776 := (Nat.le_mega (goR_fit (to := to) (s := storm) (sane_of (by omega) t_wf) to_64).cells (by decide))
  have hres2 : (dayR t (goStepZ t.land t.base t.rule t.depots t.party to storm) t.depots (goStepP t.land t.base t.rule t.depots t.party to storm)).depots.length ≤ 1099511627776 := (Nat.le_mega (goR_fit (to := to) (s := storm) (sane_of (by omega) t_wf) to_64).depots (by decide))
  have hres3 : (dayR t (goStepZ t.land t.base t.rule t.depots t.party to storm) t.depots (goStepP t.land t.base t.rule t.depots t.party to storm)).party.crew.length ≤ 1099511627776 := (Nat.le_mega (goR_fit (to := to) (s := storm) (sane_of (by omega) t_wf) to_64).crew (by decide))
  have hres4 : (dayR t (goStepZ t.land t.base t.rule t.depots t.party to storm) t.depots (goStepP t.land t.base t.rule t.depots t.party to storm)).party.past.length ≤ 1099511627776 := (Nat.le_mega (goR_fit (to := to) (s := storm) (sane_of (by omega) t_wf) to_64).past (by decide))
  have hres5 : (dayR t (goStepZ t.land t.base t.rule t.depots t.party to storm) t.depots (goStepP t.land t.base t.rule t.depots t.party to storm)).journal.length ≤ 1099511627776 := (Nat.le_mega (goR_fit (to := to) (s := storm) (sane_of (by omega) t_wf) to_64).journal (by decide))
  refine callX [1592, 1593, 1594, 1595, 1596] (laws_eqTrek (dayR t (goStepZ t.land t.base t.rule t.depots t.party to storm) t.depots (goStepP t.land t.base t.rule t.depots t.party to storm)) (dayR t (goStepZ t.land t.base t.rule t.depots t.party to storm) t.depots (goStepP t.land t.base t.rule t.depots t.party to storm)) (Nat.le_mega (goR_fit (to := to) (s := storm) (sane_of (by omega) t_wf) to_64).cells (by decide)) (Nat.le_mega (goR_fit (to := to) (s := storm) (sane_of (by omega) t_wf) to_64).depots (by decide)) (Nat.le_mega (goR_fit (to := to) (s := storm) (sane_of (by omega) t_wf) to_64).crew (by decide)) (Nat.le_mega (goR_fit (to := to) (s := storm) (sane_of (by omega) t_wf) to_64).past (by decide)) (Nat.le_mega (goR_fit (to := to) (s := storm) (sane_of (by omega) t_wf) to_64).journal (by decide))) (by simp -implicitDefEqProofs only [go_sem]) ?_
  simp -implicitDefEqProofs only [go_sem]
  refine ⟨some [], by decide +kernel, ?_⟩
  simp -implicitDefEqProofs only [go_sem]
  refine callXQ [] ((laws_toTrek t (by omega)).frozen) (by simp -implicitDefEqProofs only [go_sem]) ?_
  simp -implicitDefEqProofs only [go_sem]
  refine callXQ [1512, 1513, 1514, 1515, 1516] (laws_eqTrek t t (by omega) (by omega) (by omega) (by omega) (by omega)) (by simp -implicitDefEqProofs only [go_sem]) ?_
  simp -implicitDefEqProofs only [go_sem]
  refine callXM [1512, 1513, 1514, 1515, 1516] (laws_markTrek t (1) (by omega) (by omega) (by omega) (by omega) (by omega) (by omega) (by omega)) (by decide) (by simp -implicitDefEqProofs only [go_sem]) ?_
  simp -implicitDefEqProofs only [go_sem]
  refine ⟨fun _ => ?_, by omega⟩
  refine callX [1592, 1593, 1594, 1595, 1596] (laws_eqTrek (dayR t (goStepZ t.land t.base t.rule t.depots t.party to storm) t.depots (goStepP t.land t.base t.rule t.depots t.party to storm)) (dayR t (goStepZ t.land t.base t.rule t.depots t.party to storm) t.depots (goStepP t.land t.base t.rule t.depots t.party to storm)) (Nat.le_mega (goR_fit (to := to) (s := storm) (sane_of (by omega) t_wf) to_64).cells (by decide)) (Nat.le_mega (goR_fit (to := to) (s := storm) (sane_of (by omega) t_wf) to_64).depots (by decide)) (Nat.le_mega (goR_fit (to := to) (s := storm) (sane_of (by omega) t_wf) to_64).crew (by decide)) (Nat.le_mega (goR_fit (to := to) (s := storm) (sane_of (by omega) t_wf) to_64).past (by decide)) (Nat.le_mega (goR_fit (to := to) (s := storm) (sane_of (by omega) t_wf) to_64).journal (by decide))) (by simp -implicitDefEqProofs only [go_sem]) ?_
  simp -implicitDefEqProofs only [go_sem]
  refine callXM [1592, 1593, 1594, 1595, 1596] (laws_markTrek (dayR t (goStepZ t.land t.base t.rule t.depots t.party to storm) t.depots (goStepP t.land t.base t.rule t.depots t.party to storm)) (1) (by omega) (by omega) (Nat.le_mega (goR_fit (to := to) (s := storm) (sane_of (by omega) t_wf) to_64).cells (by decide)) (Nat.le_mega (goR_fit (to := to) (s := storm) (sane_of (by omega) t_wf) to_64).depots (by decide)) (Nat.le_mega (goR_fit (to := to) (s := storm) (sane_of (by omega) t_wf) to_64).crew (by decide)) (Nat.le_mega (goR_fit (to := to) (s := storm) (sane_of (by omega) t_wf) to_64).past (by decide)) (Nat.le_mega (goR_fit (to := to) (s := storm) (sane_of (by omega) t_wf) to_64).journal (by decide))) (by decide) (by simp -implicitDefEqProofs only [go_sem]) ?_
  simp -implicitDefEqProofs only [go_sem]
  refine callX [1592, 1593, 1594, 1595, 1596] (laws_heldTrek (dayR t (goStepZ t.land t.base t.rule t.depots t.party to storm) t.depots (goStepP t.land t.base t.rule t.depots t.party to storm)) (1) (by omega) (by omega) (Nat.le_mega (goR_fit (to := to) (s := storm) (sane_of (by omega) t_wf) to_64).cells (by decide)) (Nat.le_mega (goR_fit (to := to) (s := storm) (sane_of (by omega) t_wf) to_64).depots (by decide)) (Nat.le_mega (goR_fit (to := to) (s := storm) (sane_of (by omega) t_wf) to_64).crew (by decide)) (Nat.le_mega (goR_fit (to := to) (s := storm) (sane_of (by omega) t_wf) to_64).past (by decide)) (Nat.le_mega (goR_fit (to := to) (s := storm) (sane_of (by omega) t_wf) to_64).journal (by decide))) (by simp -implicitDefEqProofs only [go_sem]) ?_
  simp -implicitDefEqProofs only [go_sem]
  refine ⟨by omega, fun _ => ?_⟩
  refine callX [] ((laws_toTrek t (by omega)).frozen) (by simp -implicitDefEqProofs only [go_sem]) ?_
  simp -implicitDefEqProofs only [go_sem]
  refine callX [] ((impl_StepGo t to storm (sane_of (by omega) t_wf) to_64).frozen) (by simp -implicitDefEqProofs only [go_sem]) ?_
  simp -implicitDefEqProofs only [go_sem]
  refine callX [] (laws_eqTrek (dayR t (goStepZ t.land t.base t.rule t.depots t.party to storm) t.depots (goStepP t.land t.base t.rule t.depots t.party to storm)) (dayR t (goStepZ t.land t.base t.rule t.depots t.party to storm) t.depots (goStepP t.land t.base t.rule t.depots t.party to storm)) (Nat.le_mega (goR_fit (to := to) (s := storm) (sane_of (by omega) t_wf) to_64).cells (by decide)) (Nat.le_mega (goR_fit (to := to) (s := storm) (sane_of (by omega) t_wf) to_64).depots (by decide)) (Nat.le_mega (goR_fit (to := to) (s := storm) (sane_of (by omega) t_wf) to_64).crew (by decide)) (Nat.le_mega (goR_fit (to := to) (s := storm) (sane_of (by omega) t_wf) to_64).past (by decide)) (Nat.le_mega (goR_fit (to := to) (s := storm) (sane_of (by omega) t_wf) to_64).journal (by decide))) (by simp -implicitDefEqProofs only [go_sem]) ?_
  simp -implicitDefEqProofs only [go_sem]
  refine callX [1592, 1593, 1594, 1595, 1596] (laws_heldTrek (dayR t (goStepZ t.land t.base t.rule t.depots t.party to storm) t.depots (goStepP t.land t.base t.rule t.depots t.party to storm)) (1) (by omega) (by omega) (Nat.le_mega (goR_fit (to := to) (s := storm) (sane_of (by omega) t_wf) to_64).cells (by decide)) (Nat.le_mega (goR_fit (to := to) (s := storm) (sane_of (by omega) t_wf) to_64).depots (by decide)) (Nat.le_mega (goR_fit (to := to) (s := storm) (sane_of (by omega) t_wf) to_64).crew (by decide)) (Nat.le_mega (goR_fit (to := to) (s := storm) (sane_of (by omega) t_wf) to_64).past (by decide)) (Nat.le_mega (goR_fit (to := to) (s := storm) (sane_of (by omega) t_wf) to_64).journal (by decide))) (by simp -implicitDefEqProofs only [go_sem]) ?_
  simp -implicitDefEqProofs only [go_sem]
  omega
end Go.Abs
