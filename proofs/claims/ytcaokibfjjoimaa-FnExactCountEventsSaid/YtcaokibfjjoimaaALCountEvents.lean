/- The law FnExactCountEvents: its walk. -/
import Derived.Test.YtcaokibfjjoimaaACount
namespace Go.Abs
open Go.RowKit Go.Proofs
set_option linter.unusedVariables false
set_option linter.unusedSimpArgs false
set_option maxRecDepth 100000

theorem law_CountEvents (list : List DEvent) (kind : Int) (list_max : list.length ≤ maxLen) (list_wf : ∀ p ∈ list, p.wf) (kind_64 : I64 kind) : SC Try.prog 5 [.at (.im 3 (list.map DEvent.row)), .at (.v (.int .i64 kind))] [] (.at (.v (.bool true))) [] := by
  refine SC.of_V mixed Try.func5 (by kernel_rfl) rfl Try.results5 _ Try.ntmps5 (by simp) ?_
  simp -implicitDefEqProofs only [go_sem]
  refine callX [] (laws_szEventS list 1048576 (by omega) (by omega) list_max) (by simp -implicitDefEqProofs only [go_sem]) ?_
  simp -implicitDefEqProofs only [go_sem]
  intro sh1
  have si1 := szL_in sh1 (by omega)
  have sp1 := szL_pos sh1
  refine callX [] ((laws_toEventS list (by omega)).frozen) (by simp -implicitDefEqProofs only [go_sem]) ?_
  simp -implicitDefEqProofs only [go_sem]
  refine callX [] ((spec_CountEvents list kind (by omega)).frozen) (by simp -implicitDefEqProofs only [go_sem]) ?_
  simp -implicitDefEqProofs only [go_sem]
  refine callX [] ((laws_toEventS list (by omega)).frozen) (by simp -implicitDefEqProofs only [go_sem]) ?_
  simp -implicitDefEqProofs only [go_sem]
  refine callX [] ((impl_CountEvents list kind (by omega)).frozen) (by simp -implicitDefEqProofs only [go_sem]) ?_
  simp -implicitDefEqProofs only [go_sem]
  refine callX [] ((laws_toEventS list (by omega)).frozen) (by simp -implicitDefEqProofs only [go_sem]) ?_
  simp -implicitDefEqProofs only [go_sem]
  refine callX [] (laws_eqEventS list list (by omega)) (by simp -implicitDefEqProofs only [go_sem]) ?_
  simp -implicitDefEqProofs only [go_sem]
end Go.Abs
