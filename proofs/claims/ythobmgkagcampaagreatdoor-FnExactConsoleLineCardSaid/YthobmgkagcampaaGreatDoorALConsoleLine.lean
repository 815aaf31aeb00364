import Derived.Test.YthobmgkagcampaaGreatDoorAConL
import Derived.Test.YthobmgkagcampaaGreatDoorAConM
import Derived.Test.YthobmgkagcampaaGreatDoorAConN
namespace Go.Abs
open Go.RowKit Go.Proofs
set_option linter.all false
set_option maxRecDepth 100000
set_option maxHeartbeats 4000000
theorem law_ConsoleLine (t : DTrek) (line : ByteArray) (t_wf : t.wf) (line_len : line.size <= maxLen) : SC Tryz.prog 5 [.ag t.ats, .at (.v (.string line))] [] (.at (.v (.bool true))) [] := by
 refine SC.of_V mixed Tryz.func5 (by kernel_rfl) rfl Tryz.results5 _ Tryz.ntmps5 (by simp) ?_
 simp -implicitDefEqProofs only [go_sem]
 intro hstr
 refine callX [] (laws_szTrek t 1048576 (by omega) (by omega) t_wf) (by simp -implicitDefEqProofs only [go_sem]) ?_
 simp -implicitDefEqProofs only [go_sem]
 intro sh1
 have si1 := szL_in sh1 (by omega)
 have sp1 := szL_pos sh1
 refine callX [] ((laws_toTrek t (by omega)).frozen) (by simp -implicitDefEqProofs only [go_sem]) ?_
 simp -implicitDefEqProofs only [go_sem]
 refine callX [] ((spec_ConsoleLine t line (told_of (by omega) t_wf) (by omega)).frozen) (by simp -implicitDefEqProofs only [go_sem]) ?_
 simp -implicitDefEqProofs only [go_sem]
 refine callX [] (laws_toTrek t (by omega)) (by simp -implicitDefEqProofs only [go_sem]) ?_
 simp -implicitDefEqProofs only [go_sem]
 refine callX [1512, 1513, 1514, 1515, 1516] (impl_ConsoleLine t line (told_of (by omega) t_wf) (by omega)) (by simp -implicitDefEqProofs only [go_sem]) ?_
 simp -implicitDefEqProofs only [go_sem]
 have hres1 : (conZ t line).1.land.cells.length <= 1099511627776 := (Nat.le_mega (conZ_sane line (sane_of (by omega) t_wf)).fit.cells (by decide))
 have hres2 : (conZ t line).1.depots.length <= 1099511627776 := (Nat.le_mega (conZ_sane line (sane_of (by omega) t_wf)).fit.depots (by decide))
 have hres3 : (conZ t line).1.party.crew.length <= 1099511627776 := (Nat.le_mega (conZ_sane line (sane_of (by omega) t_wf)).fit.crew (by decide))
 have hres4 : (conZ t line).1.party.past.length <= 1099511627776 := (Nat.le_mega (conZ_sane line (sane_of (by omega) t_wf)).fit.past (by decide))
 have hres5 : (conZ t line).1.journal.length <= 1099511627776 := (Nat.le_mega (conZ_sane line (sane_of (by omega) t_wf)).fit.journal (by decide))
 refine callX [1576, 1577, 1578, 1579, 1580] (laws_eqTrek (conZ t line).1 (conZ t line).1 (Nat.le_mega (conZ_sane line (sane_of (by omega) t_wf)).fit.cells (by decide)) (Nat.le_mega (conZ_sane line (sane_of (by omega) t_wf)).fit.depots (by decide)) (Nat.le_mega (conZ_sane line (sane_of (by omega) t_wf)).fit.crew (by decide)) (Nat.le_mega (conZ_sane line (sane_of (by omega) t_wf)).fit.past (by decide)) (Nat.le_mega (conZ_sane line (sane_of (by omega) t_wf)).fit.journal (by decide))) (by simp -implicitDefEqProofs only [go_sem]) ?_
 simp -implicitDefEqProofs only [go_sem]
 refine ⟨some [], by decide +kernel, ?_⟩
 simp -implicitDefEqProofs only [go_sem]
 refine callXQ [] ((laws_toTrek t (by omega)).frozen) (by simp -implicitDefEqProofs only [go_sem]) ?_
 simp -implicitDefEqProofs only [go_sem]
 refine callXQ [1512, 1513, 1514, 1515, 1516] (laws_eqTrek t t (by omega) (by omega) (by omega) (by omega) (by omega)) (by simp -implicitDefEqProofs only [go_sem]) ?_
 simp -implicitDefEqProofs only [go_sem]
 refine callXM [1512, 1513, 1514, 1515, 1516] (laws_markTrek t (1) (by omega) (by omega) (by omega) (by omega) (by omega) (by omega) (by omega)) (by decide) (by simp -implicitDefEqProofs only [go_sem]) ?_
 simp -implicitDefEqProofs only [go_sem]
 refine ⟨fun _ => ?_, by omega⟩
 refine callX [1576, 1577, 1578, 1579, 1580] (laws_eqTrek (conZ t line).1 (conZ t line).1 (Nat.le_mega (conZ_sane line (sane_of (by omega) t_wf)).fit.cells (by decide)) (Nat.le_mega (conZ_sane line (sane_of (by omega) t_wf)).fit.depots (by decide)) (Nat.le_mega (conZ_sane line (sane_of (by omega) t_wf)).fit.crew (by decide)) (Nat.le_mega (conZ_sane line (sane_of (by omega) t_wf)).fit.past (by decide)) (Nat.le_mega (conZ_sane line (sane_of (by omega) t_wf)).fit.journal (by decide))) (by simp -implicitDefEqProofs only [go_sem]) ?_
 simp -implicitDefEqProofs only [go_sem]
 refine callXM [1576, 1577, 1578, 1579, 1580] (laws_markTrek (conZ t line).1 (1) (by omega) (by omega) (Nat.le_mega (conZ_sane line (sane_of (by omega) t_wf)).fit.cells (by decide)) (Nat.le_mega (conZ_sane line (sane_of (by omega) t_wf)).fit.depots (by decide)) (Nat.le_mega (conZ_sane line (sane_of (by omega) t_wf)).fit.crew (by decide)) (Nat.le_mega (conZ_sane line (sane_of (by omega) t_wf)).fit.past (by decide)) (Nat.le_mega (conZ_sane line (sane_of (by omega) t_wf)).fit.journal (by decide))) (by decide) (by simp -implicitDefEqProofs only [go_sem]) ?_
 simp -implicitDefEqProofs only [go_sem]
 refine callX [1576, 1577, 1578, 1579, 1580] (laws_heldTrek (conZ t line).1 (1) (by omega) (by omega) (Nat.le_mega (conZ_sane line (sane_of (by omega) t_wf)).fit.cells (by decide)) (Nat.le_mega (conZ_sane line (sane_of (by omega) t_wf)).fit.depots (by decide)) (Nat.le_mega (conZ_sane line (sane_of (by omega) t_wf)).fit.crew (by decide)) (Nat.le_mega (conZ_sane line (sane_of (by omega) t_wf)).fit.past (by decide)) (Nat.le_mega (conZ_sane line (sane_of (by omega) t_wf)).fit.journal (by decide))) (by simp -implicitDefEqProofs only [go_sem]) ?_
 simp -implicitDefEqProofs only [go_sem]
 refine ⟨by omega, fun _ => ?_⟩
 refine callX [] ((laws_toTrek t (by omega)).frozen) (by simp -implicitDefEqProofs only [go_sem]) ?_
 simp -implicitDefEqProofs only [go_sem]
 refine callX [] ((impl_ConsoleLine t line (told_of (by omega) t_wf) (by omega)).frozen) (by simp -implicitDefEqProofs only [go_sem]) ?_
 simp -implicitDefEqProofs only [go_sem]
 refine callX [] (laws_eqTrek (conZ t line).1 (conZ t line).1 (Nat.le_mega (conZ_sane line (sane_of (by omega) t_wf)).fit.cells (by decide)) (Nat.le_mega (conZ_sane line (sane_of (by omega) t_wf)).fit.depots (by decide)) (Nat.le_mega (conZ_sane line (sane_of (by omega) t_wf)).fit.crew (by decide)) (Nat.le_mega (conZ_sane line (sane_of (by omega) t_wf)).fit.past (by decide)) (Nat.le_mega (conZ_sane line (sane_of (by omega) t_wf)).fit.journal (by decide))) (by simp -implicitDefEqProofs only [go_sem]) ?_
 simp -implicitDefEqProofs only [go_sem]
 refine callX [1576, 1577, 1578, 1579, 1580] (laws_heldTrek (conZ t line).1 (1) (by omega) (by omega) (Nat.le_mega (conZ_sane line (sane_of (by omega) t_wf)).fit.cells (by decide)) (Nat.le_mega (conZ_sane line (sane_of (by omega) t_wf)).fit.depots (by decide)) (Nat.le_mega (conZ_sane line (sane_of (by omega) t_wf)).fit.crew (by decide)) (Nat.le_mega (conZ_sane line (sane_of (by omega) t_wf)).fit.past (by decide)) (Nat.le_mega (conZ_sane line (sane_of (by omega) t_wf)).fit.journal (by decide))) (by simp -implicitDefEqProofs only [go_sem]) ?_
 simp -implicitDefEqProofs only [go_sem]
 omega
end Go.Abs
