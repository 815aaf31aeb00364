/- The law FnExactFarthestOut: its walk. -/
import Derived.Test.YtcaokibfjjoimaaAFar
namespace Go.Abs
open Go.RowKit Go.Proofs
set_option linter.unusedVariables false
set_option linter.unusedSimpArgs false
set_option maxRecDepth 100000

theorem law_FarthestOut (x : DLand) (base : Int) (l : List DPage) (x_wf : x.wf) (base_64 : I64 base) (l_max : l.length ≤ maxLen) (l_wf : ∀ p ∈ l, p.wf) : SC Try.prog 14 [.ag x.ats, .at (.v (.int .i64 base)), .at (.im 4 (l.map DPage.row))] [] (.at (.v (.bool true))) [] := by
  refine SC.of_V mixed Try.func14 (by kernel_rfl) rfl Try.results14 _ Try.ntmps14 (by simp) ?_
  simp -implicitDefEqProofs only [go_sem]
  refine callX [] (laws_szLand x 1048576 (by omega) (by omega) x_wf) (by simp -implicitDefEqProofs only [go_sem]) ?_
  simp -implicitDefEqProofs only [go_sem]
  intro sh1
  have si1 := szL_in sh1 (by omega)
  have sp1 := szL_pos sh1
  refine callX [] (laws_szPageS l (szL x.cells.length 1048576) si1.1 si1.2 l_max) (by simp -implicitDefEqProofs only [go_sem]) ?_
  simp -implicitDefEqProofs only [go_sem]
  intro sh2
  have si2 := szL_in sh2 si1.2
  have sp2 := szL_pos sh2
  refine callX [] ((laws_toLand x (by omega)).frozen) (by simp -implicitDefEqProofs only [go_sem]) ?_
  simp -implicitDefEqProofs only [go_sem]
  refine callX [] ((laws_toPageS l (by omega)).frozen) (by simp -implicitDefEqProofs only [go_sem]) ?_
  simp -implicitDefEqProofs only [go_sem]
  refine callX [] ((spec_FarthestOut x base l (by omega) (by omega)).frozen) (by simp -implicitDefEqProofs only [go_sem]) ?_
  simp -implicitDefEqProofs only [go_sem]
  refine callX [] ((laws_toLand x (by omega)).frozen) (by simp -implicitDefEqProofs only [go_sem]) ?_
  simp -implicitDefEqProofs only [go_sem]
  refine callX [] ((laws_toPageS l (by omega)).frozen) (by simp -implicitDefEqProofs only [go_sem]) ?_
  simp -implicitDefEqProofs only [go_sem]
  refine callX [] ((impl_FarthestOut x base l (by omega) (by omega)).frozen) (by simp -implicitDefEqProofs only [go_sem]) ?_
  simp -implicitDefEqProofs only [go_sem]
  refine ⟨true, by decide +kernel, ?_⟩
  simp -implicitDefEqProofs only [go_sem]
  refine callXQ [] ((laws_toLand x (by omega)).frozen) (by simp -implicitDefEqProofs only [go_sem]) ?_
  simp -implicitDefEqProofs only [go_sem]
  refine callXQ [] (laws_eqLand x x (by omega)) (by simp -implicitDefEqProofs only [go_sem]) ?_
  simp -implicitDefEqProofs only [go_sem]
  refine callX [] ((laws_toPageS l (by omega)).frozen) (by simp -implicitDefEqProofs only [go_sem]) ?_
  simp -implicitDefEqProofs only [go_sem]
  refine callX [] (laws_eqPageS l l (by omega)) (by simp -implicitDefEqProofs only [go_sem]) ?_
  simp -implicitDefEqProofs only [go_sem]
end Go.Abs
