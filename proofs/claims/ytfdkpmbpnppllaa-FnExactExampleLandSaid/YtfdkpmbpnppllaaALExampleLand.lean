/- The law FnExactExampleLand: its walk. -/
import Derived.Test.YtfdkpmbpnppllaaAExample
namespace Go.Abs
open Go.RowKit Go.Proofs
set_option linter.unusedVariables false
set_option linter.unusedSimpArgs false
set_option maxRecDepth 100000
set_option maxHeartbeats 4000000

theorem law_ExampleLand   : SC Try.prog 3 [] [] (.at (.v (.bool true))) [] := by
  refine SC.of_V mixed Try.func3 (by kernel_rfl) rfl Try.results3 _ Try.ntmps3 (by simp) ?_
  simp -implicitDefEqProofs only [go_sem]
  refine callX [] ((spec_ExampleLand).frozen) (by simp -implicitDefEqProofs only [go_sem]) ?_
  simp -implicitDefEqProofs only [go_sem]
  refine callX [] (impl_ExampleLand) (by simp -implicitDefEqProofs only [go_sem]) ?_
  simp -implicitDefEqProofs only [go_sem]
  have hres1 : exZ.cells.length ≤ 1099511627776 := (by decide)
  refine callX [1112] (laws_eqLand exZ exZ (by decide)) (by simp -implicitDefEqProofs only [go_sem]) ?_
  simp -implicitDefEqProofs only [go_sem]
  refine callXM [1112] (laws_markLand exZ (1) (by omega) (by omega) (by decide)) (by decide) (by simp -implicitDefEqProofs only [go_sem]) ?_
  simp -implicitDefEqProofs only [go_sem]
  refine callX [1112] (laws_heldLand exZ (1) (by omega) (by omega) (by decide)) (by simp -implicitDefEqProofs only [go_sem]) ?_
  simp -implicitDefEqProofs only [go_sem]
  refine ⟨by omega, fun _ => ?_⟩
  refine callX [] ((impl_ExampleLand).frozen) (by simp -implicitDefEqProofs only [go_sem]) ?_
  simp -implicitDefEqProofs only [go_sem]
  refine callX [] (laws_eqLand exZ exZ (by decide)) (by simp -implicitDefEqProofs only [go_sem]) ?_
  simp -implicitDefEqProofs only [go_sem]
  refine callX [1112] (laws_heldLand exZ (1) (by omega) (by omega) (by decide)) (by simp -implicitDefEqProofs only [go_sem]) ?_
  simp -implicitDefEqProofs only [go_sem]
  omega
end Go.Abs
