/- The law FnExactFormatNumbers: its walk. -/
import Derived.Test.YtfdkpmbpnppllaaDoorAViews
namespace Go.Abs
open Go.RowKit Go.Proofs
set_option linter.unusedVariables false
set_option linter.unusedSimpArgs false
set_option maxRecDepth 100000
set_option maxHeartbeats 4000000

theorem law_FormatNumbers (l : List Int) (l_max : l.length ≤ maxLen) (l_wf : ∀ p ∈ l, I64 p) : SC Tryd.prog 3 [.at (.im 1 (l.map intRow))] [] (.at (.v (.bool true))) [] := by
  refine SC.of_V mixed Tryd.func3 (by kernel_rfl) rfl Tryd.results3 _ Tryd.ntmps3 (by simp) ?_
  simp -implicitDefEqProofs only [go_sem]
  intro hstr
  refine callX [] ((laws_toIntS l (by omega)).frozen) (by simp -implicitDefEqProofs only [go_sem]) ?_
  simp -implicitDefEqProofs only [go_sem]
  refine callX [] ((spec_FormatNumbers l (by omega) l_wf).frozen) (by simp -implicitDefEqProofs only [go_sem]) ?_
  simp -implicitDefEqProofs only [go_sem]
  refine callX [] ((laws_toIntS l (by omega)).frozen) (by simp -implicitDefEqProofs only [go_sem]) ?_
  simp -implicitDefEqProofs only [go_sem]
  refine callX [] ((impl_FormatNumbers l (by omega) l_wf).frozen) (by simp -implicitDefEqProofs only [go_sem]) ?_
  simp -implicitDefEqProofs only [go_sem]
  refine callX [] ((laws_toIntS l (by omega)).frozen) (by simp -implicitDefEqProofs only [go_sem]) ?_
  simp -implicitDefEqProofs only [go_sem]
  refine callX [] (laws_eqIntS l l (by omega)) (by simp -implicitDefEqProofs only [go_sem]) ?_
  simp -implicitDefEqProofs only [go_sem]
end Go.Abs
