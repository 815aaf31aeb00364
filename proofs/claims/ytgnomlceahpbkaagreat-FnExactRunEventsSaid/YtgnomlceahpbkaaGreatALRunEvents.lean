/- The law FnExactRunEvents: its walk. -/
import Derived.Test.YtgnomlceahpbkaaGreatAEvtR
namespace Go.Abs
open Go.RowKit Go.Proofs
set_option linter.unusedVariables false
set_option linter.unusedSimpArgs false
set_option maxRecDepth 100000
set_option maxHeartbeats 4000000

theorem law_RunEvents (t : DTrek) (list : List DEvent) (t_wf : t.wf) (list_max : list.length ≤ maxLen) (list_wf : ∀ p ∈ list, p.wf) : SC Tryz.prog 12 [.ag t.ats, .at (.im 3 (list.map DEvent.row))] [] (.at (.v (.bool true))) [] := by
  refine SC.of_V mixed Tryz.func12 (by kernel_rfl) rfl Tryz.results12 _ Tryz.ntmps12 (by simp) ?_
  simp -implicitDefEqProofs only [go_sem]
  refine callX [] (laws_szTrek t 1048576 (by omega) (by omega) t_wf) (by simp -implicitDefEqProofs only [go_sem]) ?_
  simp -implicitDefEqProofs only [go_sem]
  intro sh1
  have si1 := szL_in sh1 (by omega)
  have sp1 := szL_pos sh1
  refine callX [] (laws_szEventS list (szL (t.land.cells.length + t.depots.length + (t.party.crew.length + t.party.past.length) + t.journal.length) 1048576) si1.1 si1.2 list_max) (by simp -implicitDefEqProofs only [go_sem]) ?_
  simp -implicitDefEqProofs only [go_sem]
  intro sh2
  have si2 := szL_in sh2 si1.2
  have sp2 := szL_pos sh2
  refine callX [] ((laws_toTrek t (by omega)).frozen) (by simp -implicitDefEqProofs only [go_sem]) ?_
  simp -implicitDefEqProofs only [go_sem]
  refine callX [] ((laws_toEventS list (by omega)).frozen) (by simp -implicitDefEqProofs only [go_sem]) ?_
  simp -implicitDefEqProofs only [go_sem]
  refine callX [] ((spec_RunEvents t list (sane_of (by omega) t_wf) (by omega) (fun e he => (list_wf e he).2)).frozen) (by simp -implicitDefEqProofs only [go_sem]) ?_
  simp -implicitDefEqProofs only [go_sem]
  refine callX [] (laws_toTrek t (by omega)) (by simp -implicitDefEqProofs only [go_sem]) ?_
  simp -implicitDefEqProofs only [go_sem]
  refine callX [] (laws_toEventS list (by omega)) (by simp -implicitDefEqProofs only [go_sem]) ?_
  simp -implicitDefEqProofs only [go_sem]
  refine callX [1480, 1481, 1482, 1483, 1484, 1512] (impl_RunEvents t list (sane_of (by omega) t_wf) (by omega) (fun e he => (list_wf e he).2)) (by simp -implicitDefEqProofs only [go_sem]) ?_
  simp -implicitDefEqProofs only [go_sem]
  have hres1 : (runZ t list).land.cells.length ≤ 1099511627776 := (Nat.le_mega (run_sane list t (sane_of (by omega) t_wf) (fun e he => (list_wf e he).2)).fit.cells (by decide))
  have hres2 : (runZ t list).depots.length ≤ 1099511627776 := (Nat.le_mega (run_sane list t (sane_of (by omega) t_wf) (fun e he => (list_wf e he).2)).fit.depots (by decide))
  have hres3 : (runZ t list).party.crew.length ≤ 1099511627776 := (Nat.le_mega (run_sane list t (sane_of (by omega) t_wf) (fun e he => (list_wf e he).2)).fit.crew (by decide))
  have hres4 : (runZ t list).party.past.length ≤ 1099511627776 := (Nat.le_mega (run_sane list t (sane_of (by omega) t_wf) (fun e he => (list_wf e he).2)).fit.past (by decide))
  have hres5 : (runZ t list).journal.length ≤ 1099511627776 := (Nat.le_mega (run_sane list t (sane_of (by omega) t_wf) (fun e he => (list_wf e he).2)).fit.journal (by decide))
  refine callX [1560, 1561, 1562, 1563, 1564] (laws_eqTrek (runZ t list) (runZ t list) (Nat.le_mega (run_sane list t (sane_of (by omega) t_wf) (fun e he => (list_wf e he).2)).fit.cells (by decide)) (Nat.le_mega (run_sane list t (sane_of (by omega) t_wf) (fun e he => (list_wf e he).2)).fit.depots (by decide)) (Nat.le_mega (run_sane list t (sane_of (by omega) t_wf) (fun e he => (list_wf e he).2)).fit.crew (by decide)) (Nat.le_mega (run_sane list t (sane_of (by omega) t_wf) (fun e he => (list_wf e he).2)).fit.past (by decide)) (Nat.le_mega (run_sane list t (sane_of (by omega) t_wf) (fun e he => (list_wf e he).2)).fit.journal (by decide))) (by simp -implicitDefEqProofs only [go_sem]) ?_
  simp -implicitDefEqProofs only [go_sem]
  refine ⟨some [], by decide +kernel, ?_⟩
  simp -implicitDefEqProofs only [go_sem]
  refine callXQ [] ((laws_toTrek t (by omega)).frozen) (by simp -implicitDefEqProofs only [go_sem]) ?_
  simp -implicitDefEqProofs only [go_sem]
  refine callXQ [1480, 1481, 1482, 1483, 1484] (laws_eqTrek t t (by omega) (by omega) (by omega) (by omega) (by omega)) (by simp -implicitDefEqProofs only [go_sem]) ?_
  simp -implicitDefEqProofs only [go_sem]
  refine callX [] ((laws_toEventS list (by omega)).frozen) (by simp -implicitDefEqProofs only [go_sem]) ?_
  simp -implicitDefEqProofs only [go_sem]
  refine callX [1512] (laws_eqEventS list list (by omega)) (by simp -implicitDefEqProofs only [go_sem]) ?_
  simp -implicitDefEqProofs only [go_sem]
  refine callXM [1480, 1481, 1482, 1483, 1484] (laws_markTrek t (1) (by omega) (by omega) (by omega) (by omega) (by omega) (by omega) (by omega)) (by decide) (by simp -implicitDefEqProofs only [go_sem]) ?_
  simp -implicitDefEqProofs only [go_sem]
  refine callXM [1512] (laws_markEventS list (1 + 1 * t.land.cells.length + 2 * t.depots.length + 4 * t.party.crew.length + 1 * t.party.past.length + 4 * t.journal.length) (by omega) (by omega) (by omega)) (by decide) (by simp -implicitDefEqProofs only [go_sem]) ?_
  simp -implicitDefEqProofs only [go_sem]
  refine ⟨fun _ => ?_, by omega⟩
  refine callX [1560, 1561, 1562, 1563, 1564] (laws_eqTrek (runZ t list) (runZ t list) (Nat.le_mega (run_sane list t (sane_of (by omega) t_wf) (fun e he => (list_wf e he).2)).fit.cells (by decide)) (Nat.le_mega (run_sane list t (sane_of (by omega) t_wf) (fun e he => (list_wf e he).2)).fit.depots (by decide)) (Nat.le_mega (run_sane list t (sane_of (by omega) t_wf) (fun e he => (list_wf e he).2)).fit.crew (by decide)) (Nat.le_mega (run_sane list t (sane_of (by omega) t_wf) (fun e he => (list_wf e he).2)).fit.past (by decide)) (Nat.le_mega (run_sane list t (sane_of (by omega) t_wf) (fun e he => (list_wf e he).2)).fit.journal (by decide))) (by simp -implicitDefEqProofs only [go_sem]) ?_
  simp -implicitDefEqProofs only [go_sem]
  refine callXM [1560, 1561, 1562, 1563, 1564] (laws_markTrek (runZ t list) (1) (by omega) (by omega) (Nat.le_mega (run_sane list t (sane_of (by omega) t_wf) (fun e he => (list_wf e he).2)).fit.cells (by decide)) (Nat.le_mega (run_sane list t (sane_of (by omega) t_wf) (fun e he => (list_wf e he).2)).fit.depots (by decide)) (Nat.le_mega (run_sane list t (sane_of (by omega) t_wf) (fun e he => (list_wf e he).2)).fit.crew (by decide)) (Nat.le_mega (run_sane list t (sane_of (by omega) t_wf) (fun e he => (list_wf e he).2)).fit.past (by decide)) (Nat.le_mega (run_sane list t (sane_of (by omega) t_wf) (fun e he => (list_wf e he).2)).fit.journal (by decide))) (by decide) (by simp -implicitDefEqProofs only [go_sem]) ?_
  simp -implicitDefEqProofs only [go_sem]
  refine callX [1560, 1561, 1562, 1563, 1564] (laws_heldTrek (runZ t list) (1) (by omega) (by omega) (Nat.le_mega (run_sane list t (sane_of (by omega) t_wf) (fun e he => (list_wf e he).2)).fit.cells (by decide)) (Nat.le_mega (run_sane list t (sane_of (by omega) t_wf) (fun e he => (list_wf e he).2)).fit.depots (by decide)) (Nat.le_mega (run_sane list t (sane_of (by omega) t_wf) (fun e he => (list_wf e he).2)).fit.crew (by decide)) (Nat.le_mega (run_sane list t (sane_of (by omega) t_wf) (fun e he => (list_wf e he).2)).fit.past (by decide)) (Nat.le_mega (run_sane list t (sane_of (by omega) t_wf) (fun e he => (list_wf e he).2)).fit.journal (by decide))) (by simp -implicitDefEqProofs only [go_sem]) ?_
  simp -implicitDefEqProofs only [go_sem]
  refine ⟨by omega, fun _ => ?_⟩
  refine callX [] ((laws_toTrek t (by omega)).frozen) (by simp -implicitDefEqProofs only [go_sem]) ?_
  simp -implicitDefEqProofs only [go_sem]
  refine callX [] ((laws_toEventS list (by omega)).frozen) (by simp -implicitDefEqProofs only [go_sem]) ?_
  simp -implicitDefEqProofs only [go_sem]
  refine callX [] ((impl_RunEvents t list (sane_of (by omega) t_wf) (by omega) (fun e he => (list_wf e he).2)).frozen) (by simp -implicitDefEqProofs only [go_sem]) ?_
  simp -implicitDefEqProofs only [go_sem]
  refine callX [] (laws_eqTrek (runZ t list) (runZ t list) (Nat.le_mega (run_sane list t (sane_of (by omega) t_wf) (fun e he => (list_wf e he).2)).fit.cells (by decide)) (Nat.le_mega (run_sane list t (sane_of (by omega) t_wf) (fun e he => (list_wf e he).2)).fit.depots (by decide)) (Nat.le_mega (run_sane list t (sane_of (by omega) t_wf) (fun e he => (list_wf e he).2)).fit.crew (by decide)) (Nat.le_mega (run_sane list t (sane_of (by omega) t_wf) (fun e he => (list_wf e he).2)).fit.past (by decide)) (Nat.le_mega (run_sane list t (sane_of (by omega) t_wf) (fun e he => (list_wf e he).2)).fit.journal (by decide))) (by simp -implicitDefEqProofs only [go_sem]) ?_
  simp -implicitDefEqProofs only [go_sem]
  refine callX [1560, 1561, 1562, 1563, 1564] (laws_heldTrek (runZ t list) (1) (by omega) (by omega) (Nat.le_mega (run_sane list t (sane_of (by omega) t_wf) (fun e he => (list_wf e he).2)).fit.cells (by decide)) (Nat.le_mega (run_sane list t (sane_of (by omega) t_wf) (fun e he => (list_wf e he).2)).fit.depots (by decide)) (Nat.le_mega (run_sane list t (sane_of (by omega) t_wf) (fun e he => (list_wf e he).2)).fit.crew (by decide)) (Nat.le_mega (run_sane list t (sane_of (by omega) t_wf) (fun e he => (list_wf e he).2)).fit.past (by decide)) (Nat.le_mega (run_sane list t (sane_of (by omega) t_wf) (fun e he => (list_wf e he).2)).fit.journal (by decide))) (by simp -implicitDefEqProofs only [go_sem]) ?_
  simp -implicitDefEqProofs only [go_sem]
  omega
end Go.Abs
