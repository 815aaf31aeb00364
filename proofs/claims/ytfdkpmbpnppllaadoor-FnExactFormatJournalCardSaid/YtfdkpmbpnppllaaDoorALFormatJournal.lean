/- The law FnExactFormatJournal: its walk. -/
import Derived.Test.YtfdkpmbpnppllaaDoorAViews
namespace Go.Abs
open Go.RowKit Go.Proofs
set_option linter.unusedVariables false
set_option linter.unusedSimpArgs false
set_option maxRecDepth 100000
set_option maxHeartbeats 4000000

theorem law_FormatJournal (x : DLand) (l : List DPage) (x_wf : x.wf) (l_max : l.length ≤ maxLen) (l_wf : ∀ p ∈ l, p.wf) : SC Tryd.prog 6 [.ag x.ats, .at (.im 4 (l.map DPage.row))] [] (.at (.v (.bool true))) [] := by
  refine SC.of_V mixed Tryd.func6 (by kernel_rfl) rfl Tryd.results6 _ Tryd.ntmps6 (by simp) ?_
  simp -implicitDefEqProofs only [go_sem]
  refine callX [] (laws_szLand x 1048576 (by omega) (by omega) x_wf) (by simp -implicitDefEqProofs only [go_sem]) ?_
  simp -implicitDefEqProofs only [go_sem]
  intro sh1
  have si1 := szL_in sh1 (by omega)
  have sp1 := szL_pos sh1
  refine callX [] (laws_szPageS l (szL x.cells.length 1048576) si1.1 si1.2 l_max) (by simp -implicitDefEqProofs only [go_sem]) ?_
  simp -implicitDefEqProofs only [go_sem]
  intro sh2
  have si2 := szL_in sh2 si1.2
  have sp2 := szL_pos sh2
  refine callX [] ((laws_toLand x (by omega)).frozen) (by simp -implicitDefEqProofs only [go_sem]) ?_
  simp -implicitDefEqProofs only [go_sem]
  refine callX [] ((laws_toPageS l (by omega)).frozen) (by simp -implicitDefEqProofs only [go_sem]) ?_
  simp -implicitDefEqProofs only [go_sem]
  refine callX [] ((spec_FormatJournal x l (by omega) (by omega) l_wf).frozen) (by simp -implicitDefEqProofs only [go_sem]) ?_
  simp -implicitDefEqProofs only [go_sem]
  refine callX [] ((laws_toLand x (by omega)).frozen) (by simp -implicitDefEqProofs only [go_sem]) ?_
  simp -implicitDefEqProofs only [go_sem]
  refine callX [] ((laws_toPageS l (by omega)).frozen) (by simp -implicitDefEqProofs only [go_sem]) ?_
  simp -implicitDefEqProofs only [go_sem]
  refine callX [] ((impl_FormatJournal x l (by omega) (by omega) l_wf).frozen) (by simp -implicitDefEqProofs only [go_sem]) ?_
  simp -implicitDefEqProofs only [go_sem]
  refine ⟨some [], by decide +kernel, ?_⟩
  simp -implicitDefEqProofs only [go_sem]
  refine callXQ [] ((laws_toLand x (by omega)).frozen) (by simp -implicitDefEqProofs only [go_sem]) ?_
  simp -implicitDefEqProofs only [go_sem]
  refine callXQ [] (laws_eqLand x x (by omega)) (by simp -implicitDefEqProofs only [go_sem]) ?_
  simp -implicitDefEqProofs only [go_sem]
  refine callX [] ((laws_toPageS l (by omega)).frozen) (by simp -implicitDefEqProofs only [go_sem]) ?_
  simp -implicitDefEqProofs only [go_sem]
  refine callX [] (laws_eqPageS l l (by omega)) (by simp -implicitDefEqProofs only [go_sem]) ?_
  simp -implicitDefEqProofs only [go_sem]
end Go.Abs
