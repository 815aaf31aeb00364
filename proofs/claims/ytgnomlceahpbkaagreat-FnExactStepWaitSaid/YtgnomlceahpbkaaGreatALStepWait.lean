/- The law FnExactStepWait: its walk. -/
import Derived.Test.YtgnomlceahpbkaaGreatAEvt
namespace Go.Abs
open Go.RowKit Go.Proofs
set_option linter.unusedVariables false
set_option linter.unusedSimpArgs false
set_option maxRecDepth 100000
set_option maxHeartbeats 4000000

theorem law_StepWait (t : DTrek) (storm : Bool) (t_wf : t.wf) : SC Tryz.prog 6 [.ag t.ats, .at (.v (.bool storm))] [] (.at (.v (.bool true))) [] := by
  refine SC.of_V mixed Tryz.func6 (by kernel_rfl) rfl Tryz.results6 _ Tryz.ntmps6 (by simp) ?_
  simp -implicitDefEqProofs only [go_sem]
  refine callX [] (laws_szTrek t 1048576 (by omega) (by omega) t_wf) (by simp -implicitDefEqProofs only [go_sem]) ?_
  simp -implicitDefEqProofs only [go_sem]
  intro sh1
  have si1 := szL_in sh1 (by omega)
  have sp1 := szL_pos sh1
  refine callX [] ((laws_toTrek t (by omega)).frozen) (by simp -implicitDefEqProofs only [go_sem]) ?_
  simp -implicitDefEqProofs only [go_sem]
  refine callX [] ((spec_StepWait t storm (sane_of (by omega) t_wf)).frozen) (by simp -implicitDefEqProofs only [go_sem]) ?_
  simp -implicitDefEqProofs only [go_sem]
  refine callX [] (laws_toTrek t (by omega)) (by simp -implicitDefEqProofs only [go_sem]) ?_
  simp -implicitDefEqProofs only [go_sem]
  refine callX [1464, 1465, 1466, 1467, 1468] (impl_StepWait t storm (sane_of (by omega) t_wf)) (by simp -implicitDefEqProofs only [go_sem]) ?_
  simp -implicitDefEqProofs only [go_sem]
  have hres1 : (dayR t (waitStepZ t.land t.base t.rule t.depots t.party storm) t.depots (waitStepP t.land t.base t.rule t.depots t.party storm)).land.cells.length ≤ 1099511627776 := (Nat.le_mega (waitR_fit (s := storm) (sane_of (by omega) t_wf)).cells (by decide))
  have hres2 : (dayR t (waitStepZ t.land t.base t.rule t.depots t.party storm) t.depots (waitStepP t.land t.base t.rule t.depots t.party storm)).depots.length ≤ 1099511627776 := (Nat.le_mega (waitR_fit (s := storm) (sane_of (by omega) t_wf)).depots (by decide))
  have hres3 : (dayR t (waitStepZ t.land t.base t.rule t.depots t.party storm) t.depots (waitStepP t.land t.base t.rule t.depots t.party storm)).party.crew.length ≤ 1099511627776 := (Nat.le_mega (waitR_fit (s := storm) (sane_of (by omega) t_wf)).crew (by decide))
  have hres4 : (dayR t (waitStepZ t.land t.base t.rule t.depots t.party storm) t.depots (waitStepP t.land t.base t.rule t.depots t.party storm)).party.past.length ≤ 1099511627776 := (Nat.le_mega (waitR_fit (s := storm) (sane_of (by omega) t_wf)).past (by decide))
  have hres5 : (dayR t (waitStepZ t.land t.base t.rule t.depots t.party storm) t.depots (waitStepP t.land t.base t.rule t.depots t.party storm)).journal.length ≤ 1099511627776 := (Nat.le_mega (waitR_fit (s := storm) (sane_of (by omega) t_wf)).journal (by decide))
  refine callX [1528, 1529, 1530, 1531, 1532] (laws_eqTrek (dayR t (waitStepZ t.land t.base t.rule t.depots t.party storm) t.depots (waitStepP t.land t.base t.rule t.depots t.party storm)) (dayR t (waitStepZ t.land t.base t.rule t.depots t.party storm) t.depots (waitStepP t.land t.base t.rule t.depots t.party storm)) (Nat.le_mega (waitR_fit (s := storm) (sane_of (by omega) t_wf)).cells (by decide)) (Nat.le_mega (waitR_fit (s := storm) (sane_of (by omega) t_wf)).depots (by decide)) (Nat.le_mega (waitR_fit (s := storm) (sane_of (by omega) t_wf)).crew (by decide)) (Nat.le_mega (waitR_fit (s := storm) (sane_of (by omega) t_wf)).past (by decide)) (Nat.le_mega (waitR_fit (s := storm) (sane_of (by omega) t_wf)).journal (by decide))) (by simp -implicitDefEqProofs only [go_sem]) ?_
  simp -implicitDefEqProofs only [go_sem]
  refine ⟨some [], by decide +kernel, ?_⟩
  simp -implicitDefEqProofs only [go_sem]
  refine callXQ [] ((laws_toTrek t (by omega)).frozen) (by simp -implicitDefEqProofs only [go_sem]) ?_
  simp -implicitDefEqProofs only [go_sem]
  refine callXQ [1464, 1465, 1466, 1467, 1468] (laws_eqTrek t t (by omega) (by omega) (by omega) (by omega) (by omega)) (by simp -implicitDefEqProofs only [go_sem]) ?_
  simp -implicitDefEqProofs only [go_sem]
  refine callXM [1464, 1465, 1466, 1467, 1468] (laws_markTrek t (1) (by omega) (by omega) (by omega) (by omega) (by omega) (by omega) (by omega)) (by decide) (by simp -implicitDefEqProofs only [go_sem]) ?_
  simp -implicitDefEqProofs only [go_sem]
  refine ⟨fun _ => ?_, by omega⟩
  refine callX [1528, 1529, 1530, 1531, 1532] (laws_eqTrek (dayR t (waitStepZ t.land t.base t.rule t.depots t.party storm) t.depots (waitStepP t.land t.base t.rule t.depots t.party storm)) (dayR t (waitStepZ t.land t.base t.rule t.depots t.party storm) t.depots (waitStepP t.land t.base t.rule t.depots t.party storm)) (Nat.le_mega (waitR_fit (s := storm) (sane_of (by omega) t_wf)).cells (by decide)) (Nat.le_mega (waitR_fit (s := storm) (sane_of (by omega) t_wf)).depots (by decide)) (Nat.le_mega (waitR_fit (s := storm) (sane_of (by omega) t_wf)).crew (by decide)) (Nat.le_mega (waitR_fit (s := storm) (sane_of (by omega) t_wf)).past (by decide)) (Nat.le_mega (waitR_fit (s := storm) (sane_of (by omega) t_wf)).journal (by decide))) (by simp -implicitDefEqProofs only [go_sem]) ?_
  simp -implicitDefEqProofs only [go_sem]
  refine callXM [1528, 1529, 1530, 1531, 1532] (laws_markTrek (dayR t (waitStepZ t.land t.base t.rule t.depots t.party storm) t.depots (waitStepP t.land t.base t.rule t.depots t.party storm)) (1) (by omega) (by omega) (Nat.le_mega (waitR_fit (s := storm) (sane_of (by omega) t_wf)).cells (by decide)) (Nat.le_mega (waitR_fit (s := storm) (sane_of (by omega) t_wf)).depots (by decide)) (Nat.le_mega (waitR_fit (s := storm) (sane_of (by omega) t_wf)).crew (by decide)) (Nat.le_mega (waitR_fit (s := storm) (sane_of (by omega) t_wf)).past (by decide)) (Nat.le_mega (waitR_fit (s := storm) (sane_of (by omega) t_wf)).journal (by decide))) (by decide) (by simp -implicitDefEqProofs only [go_sem]) ?_
  simp -implicitDefEqProofs only [go_sem]
  refine callX [1528, 1529, 1530, 1531, 1532] (laws_heldTrek (dayR t (waitStepZ t.land t.base t.rule t.depots t.party storm) t.depots (waitStepP t.land t.base t.rule t.depots t.party storm)) (1) (by omega) (by omega) (Nat.le_mega (waitR_fit (s := storm) (sane_of (by omega) t_wf)).cells (by decide)) (Nat.le_mega (waitR_fit (s := storm) (sane_of (by omega) t_wf)).depots (by decide)) (Nat.le_mega (waitR_fit (s := storm) (sane_of (by omega) t_wf)).crew (by decide)) (Nat.le_mega (waitR_fit (s := storm) (sane_of (by omega) t_wf)).past (by decide)) (Nat.le_mega (waitR_fit (s := storm) (sane_of (by omega) t_wf)).journal (by decide))) (by simp -implicitDefEqProofs only [go_sem]) ?_
  simp -implicitDefEqProofs only [go_sem]
  refine ⟨by omega, fun _ => ?_⟩
  refine callX [] ((laws_toTrek t (by omega)).frozen) (by simp -implicitDefEqProofs only [go_sem]) ?_
  simp -implicitDefEqProofs only [go_sem]
  refine callX [] ((impl_StepWait t storm (sane_of (by omega) t_wf)).frozen) (by simp -implicitDefEqProofs only [go_sem]) ?_
  simp -implicitDefEqProofs only [go_sem]
  refine callX [] (laws_eqTrek (dayR t (waitStepZ t.land t.base t.rule t.depots t.party storm) t.depots (waitStepP t.land t.base t.rule t.depots t.party storm)) (dayR t (waitStepZ t.land t.base t.rule t.depots t.party storm) t.depots (waitStepP t.land t.base t.rule t.depots t.party storm)) (Nat.le_mega (waitR_fit (s := storm) (sane_of (by omega) t_wf)).cells (by decide)) (Nat.le_mega (waitR_fit (s := storm) (sane_of (by omega) t_wf)).depots (by decide)) (Nat.le_mega (waitR_fit (s := storm) (sane_of (by omega) t_wf)).crew (by decide)) (Nat.le_mega (waitR_fit (s := storm) (sane_of (by omega) t_wf)).past (by decide)) (Nat.le_mega (waitR_fit (s := storm) (sane_of (by omega) t_wf)).journal (by decide))) (by simp -implicitDefEqProofs only [go_sem]) ?_
  simp -implicitDefEqProofs only [go_sem]
  refine callX [1528, 1529, 1530, 1531, 1532] (laws_heldTrek (dayR t (waitStepZ t.land t.base t.rule t.depots t.party storm) t.depots (waitStepP t.land t.base t.rule t.depots t.party storm)) (1) (by omega) (by omega) (Nat.le_mega (waitR_fit (s := storm) (sane_of (by omega) t_wf)).cells (by decide)) (Nat.le_mega (waitR_fit (s := storm) (sane_of (by omega) t_wf)).depots (by decide)) (Nat.le_mega (waitR_fit (s := storm) (sane_of (by omega) t_wf)).crew (by decide)) (Nat.le_mega (waitR_fit (s := storm) (sane_of (by omega) t_wf)).past (by decide)) (Nat.le_mega (waitR_fit (s := storm) (sane_of (by omega) t_wf)).journal (by decide))) (by simp -implicitDefEqProofs only [go_sem]) ?_
  simp -implicitDefEqProofs only [go_sem]
  omega
end Go.Abs
