/- The law FnExactFormatCells: its walk. -/
import Derived.Test.YtfdkpmbpnppllaaDoorAViews
namespace Go.Abs
open Go.RowKit Go.Proofs
set_option linter.unusedVariables false
set_option linter.unusedSimpArgs false
set_option maxRecDepth 100000
set_option maxHeartbeats 4000000

theorem law_FormatCells (x : DLand) (l : List Int) (x_wf : x.wf) (l_max : l.length ≤ maxLen) (l_wf : ∀ p ∈ l, I64 p) : SC Tryd.prog 4 [.ag x.ats, .at (.im 1 (l.map intRow))] [] (.at (.v (.bool true))) [] := by
  refine SC.of_V mixed Tryd.func4 (by kernel_rfl) rfl Tryd.results4 _ Tryd.ntmps4 (by simp) ?_
  simp -implicitDefEqProofs only [go_sem]
  intro hstr
  refine callX [] (laws_szLand x 1048576 (by omega) (by omega) x_wf) (by simp -implicitDefEqProofs only [go_sem]) ?_
  simp -implicitDefEqProofs only [go_sem]
  intro sh1
  have si1 := szL_in sh1 (by omega)
  have sp1 := szL_pos sh1
  refine callX [] ((laws_toLand x (by omega)).frozen) (by simp -implicitDefEqProofs only [go_sem]) ?_
  simp -implicitDefEqProofs only [go_sem]
  refine callX [] ((laws_toIntS l (by omega)).frozen) (by simp -implicitDefEqProofs only [go_sem]) ?_
  simp -implicitDefEqProofs only [go_sem]
  refine callX [] ((spec_FormatCells x l (by omega) (by omega)).frozen) (by simp -implicitDefEqProofs only [go_sem]) ?_
  simp -implicitDefEqProofs only [go_sem]
  refine callX [] ((laws_toLand x (by omega)).frozen) (by simp -implicitDefEqProofs only [go_sem]) ?_
  simp -implicitDefEqProofs only [go_sem]
  refine callX [] ((laws_toIntS l (by omega)).frozen) (by simp -implicitDefEqProofs only [go_sem]) ?_
  simp -implicitDefEqProofs only [go_sem]
  refine callX [] ((impl_FormatCells x l (by omega) (by omega)).frozen) (by simp -implicitDefEqProofs only [go_sem]) ?_
  simp -implicitDefEqProofs only [go_sem]
  refine ⟨some [], by decide +kernel, ?_⟩
  simp -implicitDefEqProofs only [go_sem]
  refine callXQ [] ((laws_toLand x (by omega)).frozen) (by simp -implicitDefEqProofs only [go_sem]) ?_
  simp -implicitDefEqProofs only [go_sem]
  refine callXQ [] (laws_eqLand x x (by omega)) (by simp -implicitDefEqProofs only [go_sem]) ?_
  simp -implicitDefEqProofs only [go_sem]
  refine callX [] ((laws_toIntS l (by omega)).frozen) (by simp -implicitDefEqProofs only [go_sem]) ?_
  simp -implicitDefEqProofs only [go_sem]
  refine callX [] (laws_eqIntS l l (by omega)) (by simp -implicitDefEqProofs only [go_sem]) ?_
  simp -implicitDefEqProofs only [go_sem]
end Go.Abs
