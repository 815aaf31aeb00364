/- Food is given; the party goes on; it waits. -/
import Derived.Test.YtmiajpljlkdhcaaGreatDoorAStpX
namespace Go.Abs
open Go.RowKit Go.Proofs
set_option linter.unusedVariables false
set_option linter.unusedSimpArgs false
set_option maxRecDepth 100000
set_option maxHeartbeats 4000000

theorem spec_StepGive (t : DTrek) (n : Int) (ht : t.Fit) : SC Tryz.prog 68 [.ag t.ats, .at (.v (.int .i64 n))] [] (.tp [.ag (giveZ t n).frs, .at (.v (.bool (decide (giveP t n))))]) [] := by
  by_cases h : giveP t n
  · rw [giveZ, if_pos h, show decide (giveP t n) = true from decide_eq_true h]
    refine SC.of_W mixed Tryz.func68 (by kernel_rfl) rfl Tryz.results68 _ Tryz.ntmps68 (by simp) ?_
    simp -implicitDefEqProofs only [go_sem]
    refine callX [] (spec_l33Copy t ht) (by simp -implicitDefEqProofs only [go_sem]) ?_
    simp -implicitDefEqProofs only [go_sem]
    refine callX [] (spec_IsTrek t ht) (by simp -implicitDefEqProofs only [go_sem]) ?_
    simp -implicitDefEqProofs only [go_sem]
    refine ⟨fun _ => ?_, fun k => absurd h.2.2.1 k⟩
    refine callX [] (spec_RoomFor t.party ht.crew) (by simp -implicitDefEqProofs only [go_sem]) ?_
    simp -implicitDefEqProofs only [go_sem]
    refine callX [] (spec_l1In n 1 (roomZ t.party)) (by simp -implicitDefEqProofs only [go_sem]) ?_
    simp -implicitDefEqProofs only [go_sem]
    refine ⟨fun _ => ?_, fun k => absurd h.1 k⟩
    refine callX [] (spec_AtBase t) (by simp -implicitDefEqProofs only [go_sem]) ?_
    simp -implicitDefEqProofs only [go_sem]
    refine ⟨fun k => absurd h.2.1 k, fun _ => ?_⟩
    refine callXHB [1128, 1129, 1130, 1131, 1132] [] (spec_l34Done_yes t (giveT t n) ht (giveT_fit ht) h.2.2.1 h.2.2.2) (by decide) (by simp -implicitDefEqProofs only [go_sem]) ?_
    simp -implicitDefEqProofs only [go_sem, invOf]
  · rw [giveZ, if_neg h, show decide (giveP t n) = false from decide_eq_false h]
    refine SC.of_W mixed Tryz.func68 (by kernel_rfl) rfl Tryz.results68 _ Tryz.ntmps68 (by simp) ?_
    simp -implicitDefEqProofs only [go_sem]
    refine callX [] (spec_l33Copy t ht) (by simp -implicitDefEqProofs only [go_sem]) ?_
    simp -implicitDefEqProofs only [go_sem]
    refine callX [] (spec_IsTrek t ht) (by simp -implicitDefEqProofs only [go_sem]) ?_
    simp -implicitDefEqProofs only [go_sem]
    intro h1
    refine callX [] (spec_RoomFor t.party ht.crew) (by simp -implicitDefEqProofs only [go_sem]) ?_
    simp -implicitDefEqProofs only [go_sem]
    refine callX [] (spec_l1In n 1 (roomZ t.party)) (by simp -implicitDefEqProofs only [go_sem]) ?_
    simp -implicitDefEqProofs only [go_sem]
    intro h2
    refine callX [] (spec_AtBase t) (by simp -implicitDefEqProofs only [go_sem]) ?_
    simp -implicitDefEqProofs only [go_sem]
    intro h3
    refine callXNB [1128, 1129, 1130, 1131, 1132] [] (spec_l34Done_no t (giveT t n) true ht (giveT_fit ht) (fun k => h ⟨h2, h3, k.2⟩)) (by decide) (by simp -implicitDefEqProofs only [go_sem]) (by simp -implicitDefEqProofs only [go_sem]) ?_
    simp -implicitDefEqProofs only [go_sem, invOf]
end Go.Abs
