/- The law FnExactVisited: its walk. -/
import Derived.Test.YtcaokibfjjoimaaACount
namespace Go.Abs
open Go.RowKit Go.Proofs
set_option linter.unusedVariables false
set_option linter.unusedSimpArgs false
set_option maxRecDepth 100000

theorem law_Visited (l : List DPage) (l_max : l.length ≤ maxLen) (l_wf : ∀ p ∈ l, p.wf) : SC Try.prog 8 [.at (.im 4 (l.map DPage.row))] [] (.at (.v (.bool true))) [] := by
  refine SC.of_V mixed Try.func8 (by kernel_rfl) rfl Try.results8 _ Try.ntmps8 (by simp) ?_
  simp -implicitDefEqProofs only [go_sem]
  refine callX [] (laws_szPageS l 1048576 (by omega) (by omega) l_max) (by simp -implicitDefEqProofs only [go_sem]) ?_
  simp -implicitDefEqProofs only [go_sem]
  intro sh1
  have si1 := szL_in sh1 (by omega)
  have sp1 := szL_pos sh1
  refine callX [] ((laws_toPageS l (by omega)).frozen) (by simp -implicitDefEqProofs only [go_sem]) ?_
  simp -implicitDefEqProofs only [go_sem]
  refine callX [] ((spec_Visited l (by omega)).frozen) (by simp -implicitDefEqProofs only [go_sem]) ?_
  simp -implicitDefEqProofs only [go_sem]
  refine callX [] (laws_toPageS l (by omega)) (by simp -implicitDefEqProofs only [go_sem]) ?_
  simp -implicitDefEqProofs only [go_sem]
  refine callX [1320] (impl_Visited l (by omega)) (by simp -implicitDefEqProofs only [go_sem]) ?_
  simp -implicitDefEqProofs only [go_sem]
  refine callX [1352] (laws_eqIntS (visitTo l 64) (visitTo l 64) (Nat.le_trans visitTo_len (by decide))) (by simp -implicitDefEqProofs only [go_sem]) ?_
  simp -implicitDefEqProofs only [go_sem]
  refine callX [] ((laws_toPageS l (by omega)).frozen) (by simp -implicitDefEqProofs only [go_sem]) ?_
  simp -implicitDefEqProofs only [go_sem]
  refine callX [1320] (laws_eqPageS l l (by omega)) (by simp -implicitDefEqProofs only [go_sem]) ?_
  simp -implicitDefEqProofs only [go_sem]
  refine callXM [1320] (laws_markPageS l (1) (by omega) (by omega) (by omega)) (by decide) (by simp -implicitDefEqProofs only [go_sem]) ?_
  simp -implicitDefEqProofs only [go_sem]
  refine ⟨fun _ => ?_, by omega⟩
  refine callX [1352] (laws_eqIntS (visitTo l 64) (visitTo l 64) (Nat.le_trans visitTo_len (by decide))) (by simp -implicitDefEqProofs only [go_sem]) ?_
  simp -implicitDefEqProofs only [go_sem]
  refine callXM [1352] (laws_markIntS (visitTo l 64) (1) (by omega) (by omega) (Nat.le_trans visitTo_len (by decide))) (by decide) (by simp -implicitDefEqProofs only [go_sem]) ?_
  simp -implicitDefEqProofs only [go_sem]
  refine callX [1352] (laws_heldIntS (visitTo l 64).length (1) (by omega) (by omega) (Nat.le_trans visitTo_len (by decide))) (by simp -implicitDefEqProofs only [go_sem]) ?_
  simp -implicitDefEqProofs only [go_sem]
  refine ⟨by omega, fun _ => ?_⟩
  refine callX [] ((laws_toPageS l (by omega)).frozen) (by simp -implicitDefEqProofs only [go_sem]) ?_
  simp -implicitDefEqProofs only [go_sem]
  refine callX [] ((impl_Visited l (by omega)).frozen) (by simp -implicitDefEqProofs only [go_sem]) ?_
  simp -implicitDefEqProofs only [go_sem]
  refine callX [] (laws_eqIntS (visitTo l 64) (visitTo l 64) (Nat.le_trans visitTo_len (by decide))) (by simp -implicitDefEqProofs only [go_sem]) ?_
  simp -implicitDefEqProofs only [go_sem]
  refine callX [1352] (laws_heldIntS (visitTo l 64).length (1) (by omega) (by omega) (Nat.le_trans visitTo_len (by decide))) (by simp -implicitDefEqProofs only [go_sem]) ?_
  simp -implicitDefEqProofs only [go_sem]
  omega
end Go.Abs
