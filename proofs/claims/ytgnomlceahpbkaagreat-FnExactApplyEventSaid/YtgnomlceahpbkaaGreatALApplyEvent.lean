/- The law FnExactApplyEvent: its walk. -/
import Derived.Test.YtgnomlceahpbkaaGreatAEvt
namespace Go.Abs
open Go.RowKit Go.Proofs
set_option linter.unusedVariables false
set_option linter.unusedSimpArgs false
set_option maxRecDepth 100000
set_option maxHeartbeats 4000000

theorem law_ApplyEvent (t : DTrek) (e : DEvent) (t_wf : t.wf) (e_wf : e.wf) : SC Tryz.prog 11 [.ag t.ats, .ag e.ats] [] (.at (.v (.bool true))) [] := by
  refine SC.of_V mixed Tryz.func11 (by kernel_rfl) rfl Tryz.results11 _ Tryz.ntmps11 (by simp) ?_
  simp -implicitDefEqProofs only [go_sem]
  refine callX [] (laws_szTrek t 1048576 (by omega) (by omega) t_wf) (by simp -implicitDefEqProofs only [go_sem]) ?_
  simp -implicitDefEqProofs only [go_sem]
  intro sh1
  have si1 := szL_in sh1 (by omega)
  have sp1 := szL_pos sh1
  refine ⟨some [], by decide +kernel, ?_⟩
  simp -implicitDefEqProofs only [go_sem]
  refine callXQ [] ((laws_toTrek t (by omega)).frozen) (by simp -implicitDefEqProofs only [go_sem]) ?_
  simp -implicitDefEqProofs only [go_sem]
  refine callXQ [] ((laws_toEvent e).frozen) (by simp -implicitDefEqProofs only [go_sem]) ?_
  simp -implicitDefEqProofs only [go_sem]
  refine callXQ [] ((spec_ApplyEvent t e (sane_of (by omega) t_wf) e_wf.2).frozen) (by simp -implicitDefEqProofs only [go_sem]) ?_
  simp -implicitDefEqProofs only [go_sem]
  refine callX [] (laws_toTrek t (by omega)) (by simp -implicitDefEqProofs only [go_sem]) ?_
  simp -implicitDefEqProofs only [go_sem]
  refine ⟨some [], by decide +kernel, ?_⟩
  simp -implicitDefEqProofs only [go_sem]
  refine callXQ [] ((laws_toEvent e).frozen) (by simp -implicitDefEqProofs only [go_sem]) ?_
  simp -implicitDefEqProofs only [go_sem]
  refine callXQ [1480, 1481, 1482, 1483, 1484] (impl_ApplyEvent t e (sane_of (by omega) t_wf) e_wf.2) (by simp -implicitDefEqProofs only [go_sem]) ?_
  simp -implicitDefEqProofs only [go_sem]
  have hres1 : (applyZ t e).land.cells.length ≤ 1099511627776 := (Nat.le_mega (applyZ_sane (e := e) (sane_of (by omega) t_wf) e_wf.2).fit.cells (by decide))
  have hres2 : (applyZ t e).depots.length ≤ 1099511627776 := (Nat.le_mega (applyZ_sane (e := e) (sane_of (by omega) t_wf) e_wf.2).fit.depots (by decide))
  have hres3 : (applyZ t e).party.crew.length ≤ 1099511627776 := (Nat.le_mega (applyZ_sane (e := e) (sane_of (by omega) t_wf) e_wf.2).fit.crew (by decide))
  have hres4 : (applyZ t e).party.past.length ≤ 1099511627776 := (Nat.le_mega (applyZ_sane (e := e) (sane_of (by omega) t_wf) e_wf.2).fit.past (by decide))
  have hres5 : (applyZ t e).journal.length ≤ 1099511627776 := (Nat.le_mega (applyZ_sane (e := e) (sane_of (by omega) t_wf) e_wf.2).fit.journal (by decide))
  refine callX [1560, 1561, 1562, 1563, 1564] (laws_eqTrek (applyZ t e) (applyZ t e) (Nat.le_mega (applyZ_sane (e := e) (sane_of (by omega) t_wf) e_wf.2).fit.cells (by decide)) (Nat.le_mega (applyZ_sane (e := e) (sane_of (by omega) t_wf) e_wf.2).fit.depots (by decide)) (Nat.le_mega (applyZ_sane (e := e) (sane_of (by omega) t_wf) e_wf.2).fit.crew (by decide)) (Nat.le_mega (applyZ_sane (e := e) (sane_of (by omega) t_wf) e_wf.2).fit.past (by decide)) (Nat.le_mega (applyZ_sane (e := e) (sane_of (by omega) t_wf) e_wf.2).fit.journal (by decide))) (by simp -implicitDefEqProofs only [go_sem]) ?_
  simp -implicitDefEqProofs only [go_sem]
  refine ⟨some [], by decide +kernel, ?_⟩
  simp -implicitDefEqProofs only [go_sem]
  refine callXQ [] ((laws_toTrek t (by omega)).frozen) (by simp -implicitDefEqProofs only [go_sem]) ?_
  simp -implicitDefEqProofs only [go_sem]
  refine callXQ [1480, 1481, 1482, 1483, 1484] (laws_eqTrek t t (by omega) (by omega) (by omega) (by omega) (by omega)) (by simp -implicitDefEqProofs only [go_sem]) ?_
  simp -implicitDefEqProofs only [go_sem]
  refine callXM [1480, 1481, 1482, 1483, 1484] (laws_markTrek t (1) (by omega) (by omega) (by omega) (by omega) (by omega) (by omega) (by omega)) (by decide) (by simp -implicitDefEqProofs only [go_sem]) ?_
  simp -implicitDefEqProofs only [go_sem]
  refine ⟨fun _ => ?_, by omega⟩
  refine callX [1560, 1561, 1562, 1563, 1564] (laws_eqTrek (applyZ t e) (applyZ t e) (Nat.le_mega (applyZ_sane (e := e) (sane_of (by omega) t_wf) e_wf.2).fit.cells (by decide)) (Nat.le_mega (applyZ_sane (e := e) (sane_of (by omega) t_wf) e_wf.2).fit.depots (by decide)) (Nat.le_mega (applyZ_sane (e := e) (sane_of (by omega) t_wf) e_wf.2).fit.crew (by decide)) (Nat.le_mega (applyZ_sane (e := e) (sane_of (by omega) t_wf) e_wf.2).fit.past (by decide)) (Nat.le_mega (applyZ_sane (e := e) (sane_of (by omega) t_wf) e_wf.2).fit.journal (by decide))) (by simp -implicitDefEqProofs only [go_sem]) ?_
  simp -implicitDefEqProofs only [go_sem]
  refine callXM [1560, 1561, 1562, 1563, 1564] (laws_markTrek (applyZ t e) (1) (by omega) (by omega) (Nat.le_mega (applyZ_sane (e := e) (sane_of (by omega) t_wf) e_wf.2).fit.cells (by decide)) (Nat.le_mega (applyZ_sane (e := e) (sane_of (by omega) t_wf) e_wf.2).fit.depots (by decide)) (Nat.le_mega (applyZ_sane (e := e) (sane_of (by omega) t_wf) e_wf.2).fit.crew (by decide)) (Nat.le_mega (applyZ_sane (e := e) (sane_of (by omega) t_wf) e_wf.2).fit.past (by decide)) (Nat.le_mega (applyZ_sane (e := e) (sane_of (by omega) t_wf) e_wf.2).fit.journal (by decide))) (by decide) (by simp -implicitDefEqProofs only [go_sem]) ?_
  simp -implicitDefEqProofs only [go_sem]
  refine callX [1560, 1561, 1562, 1563, 1564] (laws_heldTrek (applyZ t e) (1) (by omega) (by omega) (Nat.le_mega (applyZ_sane (e := e) (sane_of (by omega) t_wf) e_wf.2).fit.cells (by decide)) (Nat.le_mega (applyZ_sane (e := e) (sane_of (by omega) t_wf) e_wf.2).fit.depots (by decide)) (Nat.le_mega (applyZ_sane (e := e) (sane_of (by omega) t_wf) e_wf.2).fit.crew (by decide)) (Nat.le_mega (applyZ_sane (e := e) (sane_of (by omega) t_wf) e_wf.2).fit.past (by decide)) (Nat.le_mega (applyZ_sane (e := e) (sane_of (by omega) t_wf) e_wf.2).fit.journal (by decide))) (by simp -implicitDefEqProofs only [go_sem]) ?_
  simp -implicitDefEqProofs only [go_sem]
  refine ⟨by omega, fun _ => ?_⟩
  refine ⟨some [], by decide +kernel, ?_⟩
  simp -implicitDefEqProofs only [go_sem]
  refine callXQ [] ((laws_toTrek t (by omega)).frozen) (by simp -implicitDefEqProofs only [go_sem]) ?_
  simp -implicitDefEqProofs only [go_sem]
  refine callXQ [] ((laws_toEvent e).frozen) (by simp -implicitDefEqProofs only [go_sem]) ?_
  simp -implicitDefEqProofs only [go_sem]
  refine callXQ [] ((impl_ApplyEvent t e (sane_of (by omega) t_wf) e_wf.2).frozen) (by simp -implicitDefEqProofs only [go_sem]) ?_
  simp -implicitDefEqProofs only [go_sem]
  refine callX [] (laws_eqTrek (applyZ t e) (applyZ t e) (Nat.le_mega (applyZ_sane (e := e) (sane_of (by omega) t_wf) e_wf.2).fit.cells (by decide)) (Nat.le_mega (applyZ_sane (e := e) (sane_of (by omega) t_wf) e_wf.2).fit.depots (by decide)) (Nat.le_mega (applyZ_sane (e := e) (sane_of (by omega) t_wf) e_wf.2).fit.crew (by decide)) (Nat.le_mega (applyZ_sane (e := e) (sane_of (by omega) t_wf) e_wf.2).fit.past (by decide)) (Nat.le_mega (applyZ_sane (e := e) (sane_of (by omega) t_wf) e_wf.2).fit.journal (by decide))) (by simp -implicitDefEqProofs only [go_sem]) ?_
  simp -implicitDefEqProofs only [go_sem]
  refine callX [1560, 1561, 1562, 1563, 1564] (laws_heldTrek (applyZ t e) (1) (by omega) (by omega) (Nat.le_mega (applyZ_sane (e := e) (sane_of (by omega) t_wf) e_wf.2).fit.cells (by decide)) (Nat.le_mega (applyZ_sane (e := e) (sane_of (by omega) t_wf) e_wf.2).fit.depots (by decide)) (Nat.le_mega (applyZ_sane (e := e) (sane_of (by omega) t_wf) e_wf.2).fit.crew (by decide)) (Nat.le_mega (applyZ_sane (e := e) (sane_of (by omega) t_wf) e_wf.2).fit.past (by decide)) (Nat.le_mega (applyZ_sane (e := e) (sane_of (by omega) t_wf) e_wf.2).fit.journal (by decide))) (by simp -implicitDefEqProofs only [go_sem]) ?_
  simp -implicitDefEqProofs only [go_sem]
  omega
end Go.Abs
