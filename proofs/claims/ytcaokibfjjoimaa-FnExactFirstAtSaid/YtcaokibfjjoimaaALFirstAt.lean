/- The law FnExactFirstAt: its walk. -/
import Derived.Test.YtcaokibfjjoimaaAJournal
namespace Go.Abs
open Go.RowKit Go.Proofs
set_option linter.unusedVariables false
set_option linter.unusedSimpArgs false
set_option maxRecDepth 100000

theorem law_FirstAt (l : List DPage) (cell : Int) (l_max : l.length ≤ maxLen) (l_wf : ∀ p ∈ l, p.wf) (cell_64 : I64 cell) : SC Try.prog 9 [.at (.im 4 (l.map DPage.row)), .at (.v (.int .i64 cell))] [] (.at (.v (.bool true))) [] := by
  refine SC.of_V mixed Try.func9 (by kernel_rfl) rfl Try.results9 _ Try.ntmps9 (by simp) ?_
  simp -implicitDefEqProofs only [go_sem]
  refine callX [] (laws_szPageS l 1048576 (by omega) (by omega) l_max) (by simp -implicitDefEqProofs only [go_sem]) ?_
  simp -implicitDefEqProofs only [go_sem]
  intro sh1
  have si1 := szL_in sh1 (by omega)
  have sp1 := szL_pos sh1
  refine callX [] ((laws_toPageS l (by omega)).frozen) (by simp -implicitDefEqProofs only [go_sem]) ?_
  simp -implicitDefEqProofs only [go_sem]
  refine callX [] ((spec_FirstAt l cell (by omega) l_wf).frozen) (by simp -implicitDefEqProofs only [go_sem]) ?_
  simp -implicitDefEqProofs only [go_sem]
  refine callX [] ((laws_toPageS l (by omega)).frozen) (by simp -implicitDefEqProofs only [go_sem]) ?_
  simp -implicitDefEqProofs only [go_sem]
  refine callX [] ((impl_FirstAt l cell (by omega) l_wf).frozen) (by simp -implicitDefEqProofs only [go_sem]) ?_
  simp -implicitDefEqProofs only [go_sem]
  refine callX [] ((laws_toPageS l (by omega)).frozen) (by simp -implicitDefEqProofs only [go_sem]) ?_
  simp -implicitDefEqProofs only [go_sem]
  refine callX [] (laws_eqPageS l l (by omega)) (by simp -implicitDefEqProofs only [go_sem]) ?_
  simp -implicitDefEqProofs only [go_sem]
end Go.Abs
