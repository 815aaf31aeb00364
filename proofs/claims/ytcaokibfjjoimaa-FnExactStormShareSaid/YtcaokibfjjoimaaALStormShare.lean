/- The law FnExactStormShare: its walk. -/
import Derived.Test.YtcaokibfjjoimaaACount
namespace Go.Abs
open Go.RowKit Go.Proofs
set_option linter.unusedVariables false
set_option linter.unusedSimpArgs false
set_option maxRecDepth 100000

theorem law_StormShare (past : List Bool) (past_max : past.length ≤ maxLen) (past_wf : ∀ p ∈ past, True) : SC Try.prog 4 [.at (.im 1 (past.map boolRow))] [] (.at (.v (.bool true))) [] := by
  refine SC.of_V mixed Try.func4 (by kernel_rfl) rfl Try.results4 _ Try.ntmps4 (by simp) ?_
  simp -implicitDefEqProofs only [go_sem]
  intro hlen
  refine callX [] ((laws_toBoolS past (by omega)).frozen) (by simp -implicitDefEqProofs only [go_sem]) ?_
  simp -implicitDefEqProofs only [go_sem]
  refine callX [] ((spec_StormShare past (by omega)).frozen) (by simp -implicitDefEqProofs only [go_sem]) ?_
  simp -implicitDefEqProofs only [go_sem]
  refine callX [] ((laws_toBoolS past (by omega)).frozen) (by simp -implicitDefEqProofs only [go_sem]) ?_
  simp -implicitDefEqProofs only [go_sem]
  refine callX [] ((impl_StormShare past (by omega)).frozen) (by simp -implicitDefEqProofs only [go_sem]) ?_
  simp -implicitDefEqProofs only [go_sem]
  refine callX [] ((laws_toBoolS past (by omega)).frozen) (by simp -implicitDefEqProofs only [go_sem]) ?_
  simp -implicitDefEqProofs only [go_sem]
  refine callX [] (laws_eqBoolS past past (by omega)) (by simp -implicitDefEqProofs only [go_sem]) ?_
  simp -implicitDefEqProofs only [go_sem]
end Go.Abs
