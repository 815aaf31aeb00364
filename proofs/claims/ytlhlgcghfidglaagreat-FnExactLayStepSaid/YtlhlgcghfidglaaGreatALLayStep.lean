/- The law FnExactLayStep: its walk. -/
import Derived.Test.YtlhlgcghfidglaaGreatALay
namespace Go.Abs
open Go.RowKit Go.Proofs
set_option linter.unusedVariables false
set_option linter.unusedSimpArgs false
set_option maxRecDepth 100000
set_option maxHeartbeats 4000000

theorem law_LayStep (x : DLand) (base : Int) (r : DRule) (l : List DDepot) (p : DParty) (n : Int) (x_wf : x.wf) (base_64 : I64 base) (r_wf : r.wf) (l_max : l.length ≤ maxLen) (l_wf : ∀ p ∈ l, p.wf) (p_wf : p.wf) (n_64 : I64 n) : SC Tryz.prog 5 [.ag x.ats, .at (.v (.int .i64 base)), .ag r.ats, .at (.im 2 (l.map DDepot.row)), .ag p.ats, .at (.v (.int .i64 n))] [] (.at (.v (.bool true))) [] := by
  refine SC.of_V mixed Tryz.func5 (by kernel_rfl) rfl Tryz.results5 _ Tryz.ntmps5 (by simp) ?_
  simp -implicitDefEqProofs only [go_sem]
  refine callX [] (laws_szLand x 1048576 (by omega) (by omega) x_wf) (by simp -implicitDefEqProofs only [go_sem]) ?_
  simp -implicitDefEqProofs only [go_sem]
  intro sh1
  have si1 := szL_in sh1 (by omega)
  have sp1 := szL_pos sh1
  refine callX [] (laws_szDepotS l (szL x.cells.length 1048576) si1.1 si1.2 l_max) (by simp -implicitDefEqProofs only [go_sem]) ?_
  simp -implicitDefEqProofs only [go_sem]
  intro sh2
  have si2 := szL_in sh2 si1.2
  have sp2 := szL_pos sh2
  refine callX [] (laws_szParty p (szL l.length (szL x.cells.length 1048576)) si2.1 si2.2 p_wf) (by simp -implicitDefEqProofs only [go_sem]) ?_
  simp -implicitDefEqProofs only [go_sem]
  intro sh3
  have si3 := szL_in sh3 si2.2
  have sp3 := szL_pos sh3
  refine ⟨true, by decide +kernel, ?_⟩
  simp -implicitDefEqProofs only [go_sem]
  refine callXQ [] ((laws_toLand x (by omega)).frozen) (by simp -implicitDefEqProofs only [go_sem]) ?_
  simp -implicitDefEqProofs only [go_sem]
  refine callXQ [] ((laws_toRule r).frozen) (by simp -implicitDefEqProofs only [go_sem]) ?_
  simp -implicitDefEqProofs only [go_sem]
  refine callXQ [] ((laws_toDepotS l (by omega)).frozen) (by simp -implicitDefEqProofs only [go_sem]) ?_
  simp -implicitDefEqProofs only [go_sem]
  refine callXQ [] ((laws_toParty p (by omega) (by omega)).frozen) (by simp -implicitDefEqProofs only [go_sem]) ?_
  simp -implicitDefEqProofs only [go_sem]
  refine callXQ [] ((spec_LayStep x base r l p n (by omega) (by omega) (by omega) (by omega)).frozen) (by simp -implicitDefEqProofs only [go_sem]) ?_
  simp -implicitDefEqProofs only [go_sem]
  refine callX [] (laws_toLand x (by omega)) (by simp -implicitDefEqProofs only [go_sem]) ?_
  simp -implicitDefEqProofs only [go_sem]
  refine callX [] (laws_toDepotS l (by omega)) (by simp -implicitDefEqProofs only [go_sem]) ?_
  simp -implicitDefEqProofs only [go_sem]
  refine callX [] (laws_toParty p (by omega) (by omega)) (by simp -implicitDefEqProofs only [go_sem]) ?_
  simp -implicitDefEqProofs only [go_sem]
  refine ⟨true, by decide +kernel, ?_⟩
  simp -implicitDefEqProofs only [go_sem]
  refine callXQ [] ((laws_toRule r).frozen) (by simp -implicitDefEqProofs only [go_sem]) ?_
  simp -implicitDefEqProofs only [go_sem]
  refine callXQ [1960, 1992, 2024, 2025] (impl_LayStep x base r l p n (by omega) (by omega) (by omega) (by omega)) (by simp -implicitDefEqProofs only [go_sem]) ?_
  simp -implicitDefEqProofs only [go_sem]
  have hres1 : (layStepZ x base r l p n).crew.length ≤ 1099511627776 := (layStepZ_c (by omega))
  have hres2 : (layStepZ x base r l p n).past.length ≤ 1099511627776 := (layStepZ_p (by omega))
  have hres3 : (layStepL x base r l p n).length ≤ 1099511627776 := (layStepL_len (by omega) (by omega))
  refine callX [2168, 2169] (laws_eqParty (layStepZ x base r l p n) (layStepZ x base r l p n) (layStepZ_c (by omega)) (layStepZ_p (by omega))) (by simp -implicitDefEqProofs only [go_sem]) ?_
  simp -implicitDefEqProofs only [go_sem]
  refine callX [2170] (laws_eqDepotS (layStepL x base r l p n) (layStepL x base r l p n) (layStepL_len (by omega) (by omega))) (by simp -implicitDefEqProofs only [go_sem]) ?_
  simp -implicitDefEqProofs only [go_sem]
  refine ⟨true, by decide +kernel, ?_⟩
  simp -implicitDefEqProofs only [go_sem]
  refine callXQ [] ((laws_toLand x (by omega)).frozen) (by simp -implicitDefEqProofs only [go_sem]) ?_
  simp -implicitDefEqProofs only [go_sem]
  refine callXQ [1960] (laws_eqLand x x (by omega)) (by simp -implicitDefEqProofs only [go_sem]) ?_
  simp -implicitDefEqProofs only [go_sem]
  refine callX [] ((laws_toDepotS l (by omega)).frozen) (by simp -implicitDefEqProofs only [go_sem]) ?_
  simp -implicitDefEqProofs only [go_sem]
  refine callX [1992] (laws_eqDepotS l l (by omega)) (by simp -implicitDefEqProofs only [go_sem]) ?_
  simp -implicitDefEqProofs only [go_sem]
  refine ⟨true, by decide +kernel, ?_⟩
  simp -implicitDefEqProofs only [go_sem]
  refine callXQ [] ((laws_toParty p (by omega) (by omega)).frozen) (by simp -implicitDefEqProofs only [go_sem]) ?_
  simp -implicitDefEqProofs only [go_sem]
  refine callXQ [2024, 2025] (laws_eqParty p p (by omega) (by omega)) (by simp -implicitDefEqProofs only [go_sem]) ?_
  simp -implicitDefEqProofs only [go_sem]
  refine callXM [1960] (laws_markLand x (1) (by omega) (by omega) (by omega)) (by decide) (by simp -implicitDefEqProofs only [go_sem]) ?_
  simp -implicitDefEqProofs only [go_sem]
  refine callXM [1992] (laws_markDepotS l (1 + 1 * x.cells.length) (by omega) (by omega) (by omega)) (by decide) (by simp -implicitDefEqProofs only [go_sem]) ?_
  simp -implicitDefEqProofs only [go_sem]
  refine callXM [2024, 2025] (laws_markParty p (1 + 1 * x.cells.length + 2 * l.length) (by omega) (by omega) (by omega) (by omega)) (by decide) (by simp -implicitDefEqProofs only [go_sem]) ?_
  simp -implicitDefEqProofs only [go_sem]
  refine ⟨fun _ => ?_, by omega⟩
  refine callX [2168, 2169] (laws_eqParty (layStepZ x base r l p n) (layStepZ x base r l p n) (layStepZ_c (by omega)) (layStepZ_p (by omega))) (by simp -implicitDefEqProofs only [go_sem]) ?_
  simp -implicitDefEqProofs only [go_sem]
  refine callX [2170] (laws_eqDepotS (layStepL x base r l p n) (layStepL x base r l p n) (layStepL_len (by omega) (by omega))) (by simp -implicitDefEqProofs only [go_sem]) ?_
  simp -implicitDefEqProofs only [go_sem]
  refine callXM [2168, 2169] (laws_markParty (layStepZ x base r l p n) (1) (by omega) (by omega) (layStepZ_c (by omega)) (layStepZ_p (by omega))) (by decide) (by simp -implicitDefEqProofs only [go_sem]) ?_
  simp -implicitDefEqProofs only [go_sem]
  refine callXM [2170] (laws_markDepotS (layStepL x base r l p n) (1 + 4 * (layStepZ x base r l p n).crew.length + 1 * (layStepZ x base r l p n).past.length) (by omega) (by omega) (layStepL_len (by omega) (by omega))) (by decide) (by simp -implicitDefEqProofs only [go_sem]) ?_
  simp -implicitDefEqProofs only [go_sem]
  refine callX [2168, 2169] (laws_heldParty (layStepZ x base r l p n) (1) (by omega) (by omega) (layStepZ_c (by omega)) (layStepZ_p (by omega))) (by simp -implicitDefEqProofs only [go_sem]) ?_
  simp -implicitDefEqProofs only [go_sem]
  refine ⟨by omega, fun _ => ?_⟩
  refine callX [2170] (laws_heldDepotS (layStepL x base r l p n).length (1 + 4 * (layStepZ x base r l p n).crew.length + 1 * (layStepZ x base r l p n).past.length) (by omega) (by omega) (layStepL_len (by omega) (by omega))) (by simp -implicitDefEqProofs only [go_sem]) ?_
  simp -implicitDefEqProofs only [go_sem]
  refine ⟨by omega, fun _ => ?_⟩
  refine ⟨true, by decide +kernel, ?_⟩
  simp -implicitDefEqProofs only [go_sem]
  refine callXQ [] ((laws_toLand x (by omega)).frozen) (by simp -implicitDefEqProofs only [go_sem]) ?_
  simp -implicitDefEqProofs only [go_sem]
  refine callXQ [] ((laws_toRule r).frozen) (by simp -implicitDefEqProofs only [go_sem]) ?_
  simp -implicitDefEqProofs only [go_sem]
  refine callXQ [] ((laws_toDepotS l (by omega)).frozen) (by simp -implicitDefEqProofs only [go_sem]) ?_
  simp -implicitDefEqProofs only [go_sem]
  refine callXQ [] ((laws_toParty p (by omega) (by omega)).frozen) (by simp -implicitDefEqProofs only [go_sem]) ?_
  simp -implicitDefEqProofs only [go_sem]
  refine callXQ [] ((impl_LayStep x base r l p n (by omega) (by omega) (by omega) (by omega)).frozen) (by simp -implicitDefEqProofs only [go_sem]) ?_
  simp -implicitDefEqProofs only [go_sem]
  refine callX [] (laws_eqParty (layStepZ x base r l p n) (layStepZ x base r l p n) (layStepZ_c (by omega)) (layStepZ_p (by omega))) (by simp -implicitDefEqProofs only [go_sem]) ?_
  simp -implicitDefEqProofs only [go_sem]
  refine callX [] (laws_eqDepotS (layStepL x base r l p n) (layStepL x base r l p n) (layStepL_len (by omega) (by omega))) (by simp -implicitDefEqProofs only [go_sem]) ?_
  simp -implicitDefEqProofs only [go_sem]
  refine callX [2168, 2169] (laws_heldParty (layStepZ x base r l p n) (1) (by omega) (by omega) (layStepZ_c (by omega)) (layStepZ_p (by omega))) (by simp -implicitDefEqProofs only [go_sem]) ?_
  simp -implicitDefEqProofs only [go_sem]
  refine ⟨by omega, fun _ => ?_⟩
  refine callX [2170] (laws_heldDepotS (layStepL x base r l p n).length (1 + 4 * (layStepZ x base r l p n).crew.length + 1 * (layStepZ x base r l p n).past.length) (by omega) (by omega) (layStepL_len (by omega) (by omega))) (by simp -implicitDefEqProofs only [go_sem]) ?_
  simp -implicitDefEqProofs only [go_sem]
  omega
end Go.Abs
