/- The law FnExactHomeEvents: its walk. -/
import Derived.Test.YtlhlgcghfidglaaGreatAHomeEv
namespace Go.Abs
open Go.RowKit Go.Proofs
set_option linter.unusedVariables false
set_option linter.unusedSimpArgs false
set_option maxRecDepth 100000
set_option maxHeartbeats 4000000

theorem law_HomeEvents (t : DTrek) (t_wf : t.wf) : SC Tryz.prog 10 [.ag t.ats] [] (.at (.v (.bool true))) [] := by
  refine SC.of_V mixed Tryz.func10 (by kernel_rfl) rfl Tryz.results10 _ Tryz.ntmps10 (by simp) ?_
  simp -implicitDefEqProofs only [go_sem]
  refine callX [] (laws_szTrek t 1048576 (by omega) (by omega) t_wf) (by simp -implicitDefEqProofs only [go_sem]) ?_
  simp -implicitDefEqProofs only [go_sem]
  intro sh1
  have si1 := szL_in sh1 (by omega)
  have sp1 := szL_pos sh1
  refine callX [] ((laws_toTrek t (by omega)).frozen) (by simp -implicitDefEqProofs only [go_sem]) ?_
  simp -implicitDefEqProofs only [go_sem]
  refine callX [] ((spec_HomeEvents t (DTrek.fit_of (by omega) t_wf)).frozen) (by simp -implicitDefEqProofs only [go_sem]) ?_
  simp -implicitDefEqProofs only [go_sem]
  refine callX [] (laws_toTrek t (by omega)) (by simp -implicitDefEqProofs only [go_sem]) ?_
  simp -implicitDefEqProofs only [go_sem]
  refine callX [1320, 1321, 1322, 1323, 1324] (impl_HomeEvents t (DTrek.fit_of (by omega) t_wf)) (by simp -implicitDefEqProofs only [go_sem]) ?_
  simp -implicitDefEqProofs only [go_sem]
  have hres1 : (homeEvZ t).length ≤ 1099511627776 := (homeEvZ_len (by omega))
  refine callX [1352] (laws_eqEventS (homeEvZ t) (homeEvZ t) (homeEvZ_len (by omega))) (by simp -implicitDefEqProofs only [go_sem]) ?_
  simp -implicitDefEqProofs only [go_sem]
  refine ⟨true, by decide +kernel, ?_⟩
  simp -implicitDefEqProofs only [go_sem]
  refine callXQ [] ((laws_toTrek t (by omega)).frozen) (by simp -implicitDefEqProofs only [go_sem]) ?_
  simp -implicitDefEqProofs only [go_sem]
  refine callXQ [1320, 1321, 1322, 1323, 1324] (laws_eqTrek t t (by omega) (by omega) (by omega) (by omega) (by omega)) (by simp -implicitDefEqProofs only [go_sem]) ?_
  simp -implicitDefEqProofs only [go_sem]
  refine callXM [1320, 1321, 1322, 1323, 1324] (laws_markTrek t (1) (by omega) (by omega) (by omega) (by omega) (by omega) (by omega) (by omega)) (by decide) (by simp -implicitDefEqProofs only [go_sem]) ?_
  simp -implicitDefEqProofs only [go_sem]
  refine ⟨fun _ => ?_, by omega⟩
  refine callX [1352] (laws_eqEventS (homeEvZ t) (homeEvZ t) (homeEvZ_len (by omega))) (by simp -implicitDefEqProofs only [go_sem]) ?_
  simp -implicitDefEqProofs only [go_sem]
  refine callXM [1352] (laws_markEventS (homeEvZ t) (1) (by omega) (by omega) (homeEvZ_len (by omega))) (by decide) (by simp -implicitDefEqProofs only [go_sem]) ?_
  simp -implicitDefEqProofs only [go_sem]
  refine callX [1352] (laws_heldEventS (homeEvZ t).length (1) (by omega) (by omega) (homeEvZ_len (by omega))) (by simp -implicitDefEqProofs only [go_sem]) ?_
  simp -implicitDefEqProofs only [go_sem]
  refine ⟨by omega, fun _ => ?_⟩
  refine callX [] ((laws_toTrek t (by omega)).frozen) (by simp -implicitDefEqProofs only [go_sem]) ?_
  simp -implicitDefEqProofs only [go_sem]
  refine callX [] ((impl_HomeEvents t (DTrek.fit_of (by omega) t_wf)).frozen) (by simp -implicitDefEqProofs only [go_sem]) ?_
  simp -implicitDefEqProofs only [go_sem]
  refine callX [] (laws_eqEventS (homeEvZ t) (homeEvZ t) (homeEvZ_len (by omega))) (by simp -implicitDefEqProofs only [go_sem]) ?_
  simp -implicitDefEqProofs only [go_sem]
  refine callX [1352] (laws_heldEventS (homeEvZ t).length (1) (by omega) (by omega) (homeEvZ_len (by omega))) (by simp -implicitDefEqProofs only [go_sem]) ?_
  simp -implicitDefEqProofs only [go_sem]
  omega
end Go.Abs
