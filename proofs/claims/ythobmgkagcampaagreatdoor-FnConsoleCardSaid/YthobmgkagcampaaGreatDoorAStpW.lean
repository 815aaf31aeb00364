/- The party goes on; it waits. -/
import Derived.Test.YthobmgkagcampaaGreatDoorAStpX
namespace Go.Abs
open Go.RowKit Go.Proofs
set_option linter.all false
set_option maxRecDepth 100000
set_option maxHeartbeats 4000000
theorem impl_StepGo (t : DTrek) (to : Int) (s : Bool) (ht : t.Sane) (hto : I64 to) : SC Tryz.prog 102 [.ag t.ats, .at (.v (.int .i64 to)), .at (.v (.bool s))] [] (.tp [.ag (dayR t (goStepZ t.land t.base t.rule t.depots t.party to s) t.depots (goStepP t.land t.base t.rule t.depots t.party to s)).frs, .at (.v (.bool (decide (dayP t (goStepZ t.land t.base t.rule t.depots t.party to s) t.depots (goStepP t.land t.base t.rule t.depots t.party to s)))))]) [] := by
 have h1 := ht.fit
 have hfit : ((goStepZ t.land t.base t.rule t.depots t.party to s)).Fit := goStepZ_fit ht.party hto
 by_cases h : dayP t (goStepZ t.land t.base t.rule t.depots t.party to s) t.depots (goStepP t.land t.base t.rule t.depots t.party to s)
 ·rw [dayR, if_pos h, show decide (dayP t (goStepZ t.land t.base t.rule t.depots t.party to s) t.depots (goStepP t.land t.base t.rule t.depots t.party to s)) = true from decide_eq_true h]
  refine SC.of_W mixed Tryz.func102 (by kernel_rfl) rfl Tryz.results102 _ Tryz.ntmps102 (by simp) ?_
  simp -implicitDefEqProofs only [go_sem]
  refine callX [] (impl_GoStep t.land t.base t.rule t.depots t.party to s h1.cells h1.depots h1.crew h1.past) (by simp -implicitDefEqProofs only [go_sem]) ?_
  simp -implicitDefEqProofs only [go_sem]
  rw [decide_eq_true h.1]
  refine ⟨some [1096, 1368, 1369, 1480], by decide +kernel, ?_⟩
  simp -implicitDefEqProofs only [go_sem]
  refine callXQ [] (impl_copyDepots t.depots h1.depots) (by simp -implicitDefEqProofs only [go_sem]) ?_
  simp -implicitDefEqProofs only [go_sem]
  refine callXHQ [1368, 1369, 1480] [] (by decide) (impl_day_yes t (goStepZ t.land t.base t.rule t.depots t.party to s) t.depots h1 hfit h1.depots ⟨⟨rfl, writeP_of h.2.1 h.2.2⟩, h.2⟩) (by decide) (by simp -implicitDefEqProofs only [go_sem]) ?_
  simp -implicitDefEqProofs only [go_sem, invOf]
 ·rw [dayR, if_neg h, show decide (dayP t (goStepZ t.land t.base t.rule t.depots t.party to s) t.depots (goStepP t.land t.base t.rule t.depots t.party to s)) = false from decide_eq_false h]
  refine SC.of_W mixed Tryz.func102 (by kernel_rfl) rfl Tryz.results102 _ Tryz.ntmps102 (by simp) ?_
  simp -implicitDefEqProofs only [go_sem]
  refine callX [] (impl_GoStep t.land t.base t.rule t.depots t.party to s h1.cells h1.depots h1.crew h1.past) (by simp -implicitDefEqProofs only [go_sem]) ?_
  simp -implicitDefEqProofs only [go_sem]
  refine ⟨some [1096, 1368, 1369, 1480], by decide +kernel, ?_⟩
  simp -implicitDefEqProofs only [go_sem]
  refine callXQ [] (impl_copyDepots t.depots h1.depots) (by simp -implicitDefEqProofs only [go_sem]) ?_
  simp -implicitDefEqProofs only [go_sem]
  refine callXNQ [1368, 1369, 1480] [] (by decide) (impl_day_no t (goStepZ t.land t.base t.rule t.depots t.party to s) t.depots (decide (goStepP t.land t.base t.rule t.depots t.party to s)) h1 hfit h1.depots (fun k => h (dayOk_iff.1 k))) (by decide) (by simp -implicitDefEqProofs only [go_sem]) (by simp -implicitDefEqProofs only [go_sem]) ?_
  simp -implicitDefEqProofs only [go_sem, invOf]
theorem spec_StepGo (t : DTrek) (to : Int) (s : Bool) (ht : t.Sane) (hto : I64 to) : SC Tryz.prog 78 [.ag t.ats, .at (.v (.int .i64 to)), .at (.v (.bool s))] [] (.tp [.ag (dayR t (goStepZ t.land t.base t.rule t.depots t.party to s) t.depots (goStepP t.land t.base t.rule t.depots t.party to s)).frs, .at (.v (.bool (decide (dayP t (goStepZ t.land t.base t.rule t.depots t.party to s) t.depots (goStepP t.land t.base t.rule t.depots t.party to s)))))]) [] := by
 have h1 := ht.fit
 have hfit : ((goStepZ t.land t.base t.rule t.depots t.party to s)).Fit := goStepZ_fit ht.party hto
 have hroom := h1.depots
 have hday := dayT_fit (l := t.depots) h1 hfit h1.depots
 by_cases h : dayP t (goStepZ t.land t.base t.rule t.depots t.party to s) t.depots (goStepP t.land t.base t.rule t.depots t.party to s)
 ·rw [dayR, if_pos h, show decide (dayP t (goStepZ t.land t.base t.rule t.depots t.party to s) t.depots (goStepP t.land t.base t.rule t.depots t.party to s)) = true from decide_eq_true h]
  refine SC.of_W mixed Tryz.func78 (by kernel_rfl) rfl Tryz.results78 _ Tryz.ntmps78 (by simp) ?_
  simp -implicitDefEqProofs only [go_sem]
  refine callX [] (spec_GoStep t.land t.base t.rule t.depots t.party to s h1.cells h1.depots h1.crew h1.past) (by simp -implicitDefEqProofs only [go_sem]) ?_
  simp -implicitDefEqProofs only [go_sem]
  refine ⟨fun _ => ?_, fun k => absurd h.1 k⟩
  refine callX [] (spec_IsTrek t h1) (by simp -implicitDefEqProofs only [go_sem]) ?_
  simp -implicitDefEqProofs only [go_sem]
  refine ⟨fun k => absurd h.2.1 k, fun _ => ?_⟩
  refine ⟨some [1096, 1368, 1369, 1608, 1672, 1673], by decide +kernel, ?_⟩
  simp -implicitDefEqProofs only [go_sem]
  refine ⟨room_s h1.depots (by decide), ?_⟩
  refine callXHQ [1368, 1369, 1608] [] (by decide) (spec_l34Day t (goStepZ t.land t.base t.rule t.depots t.party to s) t.depots h1 hfit h1.depots goStepZ_crew) (by decide) (by simp -implicitDefEqProofs only [go_sem]) ?_
  simp -implicitDefEqProofs only [go_sem, invOf]
  refine callXHQ [1672, 1608, 1368, 1369, 1673] [] (by decide) (spec_l34Done_yes t (dayT t (goStepZ t.land t.base t.rule t.depots t.party to s) t.depots) h1 hday h.2.1 h.2.2) (by decide) (by simp -implicitDefEqProofs only [go_sem]) ?_
  simp -implicitDefEqProofs only [go_sem, invOf]
 ·rw [dayR, if_neg h, show decide (dayP t (goStepZ t.land t.base t.rule t.depots t.party to s) t.depots (goStepP t.land t.base t.rule t.depots t.party to s)) = false from decide_eq_false h]
  refine SC.of_W mixed Tryz.func78 (by kernel_rfl) rfl Tryz.results78 _ Tryz.ntmps78 (by simp) ?_
  simp -implicitDefEqProofs only [go_sem]
  refine callX [] (spec_GoStep t.land t.base t.rule t.depots t.party to s h1.cells h1.depots h1.crew h1.past) (by simp -implicitDefEqProofs only [go_sem]) ?_
  simp -implicitDefEqProofs only [go_sem]
  refine ⟨fun h2 => ?_, fun h2 => ?_⟩
  ·refine callX [] (spec_IsTrek t h1) (by simp -implicitDefEqProofs only [go_sem]) ?_
   simp -implicitDefEqProofs only [go_sem]
   refine ⟨fun h3 => ?_, fun h3 => ?_⟩
   ·refine callX [] (spec_l33Copy t h1) (by simp -implicitDefEqProofs only [go_sem]) ?_
    simp -implicitDefEqProofs only [go_sem]
   ·refine ⟨some [1096, 1368, 1369, 1608, 1672, 1673], by decide +kernel, ?_⟩
    simp -implicitDefEqProofs only [go_sem]
    refine ⟨room_s h1.depots (by decide), ?_⟩
    refine callXHQ [1368, 1369, 1608] [] (by decide) (spec_l34Day t (goStepZ t.land t.base t.rule t.depots t.party to s) t.depots h1 hfit h1.depots goStepZ_crew) (by decide) (by simp -implicitDefEqProofs only [go_sem]) ?_
    simp -implicitDefEqProofs only [go_sem, invOf]
    refine callXNQ [1672, 1608, 1368, 1369, 1673] [] (by decide) (spec_l34Done_no t (dayT t (goStepZ t.land t.base t.rule t.depots t.party to s) t.depots) true h1 hday (fun k => h ⟨h2, h3, k.2.2⟩)) (by decide) (by simp -implicitDefEqProofs only [go_sem]) (by simp -implicitDefEqProofs only [go_sem]) ?_
    simp -implicitDefEqProofs only [go_sem, invOf]
  ·refine callX [] (spec_l33Copy t h1) (by simp -implicitDefEqProofs only [go_sem]) ?_
   simp -implicitDefEqProofs only [go_sem]
theorem impl_StepWait (t : DTrek) (s : Bool) (ht : t.Sane) : SC Tryz.prog 103 [.ag t.ats, .at (.v (.bool s))] [] (.tp [.ag (dayR t (waitStepZ t.land t.base t.rule t.depots t.party s) t.depots (waitStepP t.land t.base t.rule t.depots t.party s)).frs, .at (.v (.bool (decide (dayP t (waitStepZ t.land t.base t.rule t.depots t.party s) t.depots (waitStepP t.land t.base t.rule t.depots t.party s)))))]) [] := by
 have h1 := ht.fit
 have hfit : ((waitStepZ t.land t.base t.rule t.depots t.party s)).Fit := waitStepZ_fit ht.party
 by_cases h : dayP t (waitStepZ t.land t.base t.rule t.depots t.party s) t.depots (waitStepP t.land t.base t.rule t.depots t.party s)
 ·rw [dayR, if_pos h, show decide (dayP t (waitStepZ t.land t.base t.rule t.depots t.party s) t.depots (waitStepP t.land t.base t.rule t.depots t.party s)) = true from decide_eq_true h]
  refine SC.of_W mixed Tryz.func103 (by kernel_rfl) rfl Tryz.results103 _ Tryz.ntmps103 (by simp) ?_
  simp -implicitDefEqProofs only [go_sem]
  refine callX [] (impl_WaitStep t.land t.base t.rule t.depots t.party s h1.cells h1.depots h1.crew h1.past) (by simp -implicitDefEqProofs only [go_sem]) ?_
  simp -implicitDefEqProofs only [go_sem]
  rw [decide_eq_true h.1]
  refine ⟨some [1064, 1320, 1321, 1432], by decide +kernel, ?_⟩
  simp -implicitDefEqProofs only [go_sem]
  refine callXQ [] (impl_copyDepots t.depots h1.depots) (by simp -implicitDefEqProofs only [go_sem]) ?_
  simp -implicitDefEqProofs only [go_sem]
  refine callXHQ [1320, 1321, 1432] [] (by decide) (impl_day_yes t (waitStepZ t.land t.base t.rule t.depots t.party s) t.depots h1 hfit h1.depots ⟨⟨rfl, writeP_of h.2.1 h.2.2⟩, h.2⟩) (by decide) (by simp -implicitDefEqProofs only [go_sem]) ?_
  simp -implicitDefEqProofs only [go_sem, invOf]
 ·rw [dayR, if_neg h, show decide (dayP t (waitStepZ t.land t.base t.rule t.depots t.party s) t.depots (waitStepP t.land t.base t.rule t.depots t.party s)) = false from decide_eq_false h]
  refine SC.of_W mixed Tryz.func103 (by kernel_rfl) rfl Tryz.results103 _ Tryz.ntmps103 (by simp) ?_
  simp -implicitDefEqProofs only [go_sem]
  refine callX [] (impl_WaitStep t.land t.base t.rule t.depots t.party s h1.cells h1.depots h1.crew h1.past) (by simp -implicitDefEqProofs only [go_sem]) ?_
  simp -implicitDefEqProofs only [go_sem]
  refine ⟨some [1064, 1320, 1321, 1432], by decide +kernel, ?_⟩
  simp -implicitDefEqProofs only [go_sem]
  refine callXQ [] (impl_copyDepots t.depots h1.depots) (by simp -implicitDefEqProofs only [go_sem]) ?_
  simp -implicitDefEqProofs only [go_sem]
  refine callXNQ [1320, 1321, 1432] [] (by decide) (impl_day_no t (waitStepZ t.land t.base t.rule t.depots t.party s) t.depots (decide (waitStepP t.land t.base t.rule t.depots t.party s)) h1 hfit h1.depots (fun k => h (dayOk_iff.1 k))) (by decide) (by simp -implicitDefEqProofs only [go_sem]) (by simp -implicitDefEqProofs only [go_sem]) ?_
  simp -implicitDefEqProofs only [go_sem, invOf]
theorem spec_StepWait (t : DTrek) (s : Bool) (ht : t.Sane) : SC Tryz.prog 77 [.ag t.ats, .at (.v (.bool s))] [] (.tp [.ag (dayR t (waitStepZ t.land t.base t.rule t.depots t.party s) t.depots (waitStepP t.land t.base t.rule t.depots t.party s)).frs, .at (.v (.bool (decide (dayP t (waitStepZ t.land t.base t.rule t.depots t.party s) t.depots (waitStepP t.land t.base t.rule t.depots t.party s)))))]) [] := by
 have h1 := ht.fit
 have hfit : ((waitStepZ t.land t.base t.rule t.depots t.party s)).Fit := waitStepZ_fit ht.party
 have hroom := h1.depots
 have hday := dayT_fit (l := t.depots) h1 hfit h1.depots
 by_cases h : dayP t (waitStepZ t.land t.base t.rule t.depots t.party s) t.depots (waitStepP t.land t.base t.rule t.depots t.party s)
 ·rw [dayR, if_pos h, show decide (dayP t (waitStepZ t.land t.base t.rule t.depots t.party s) t.depots (waitStepP t.land t.base t.rule t.depots t.party s)) = true from decide_eq_true h]
  refine SC.of_W mixed Tryz.func77 (by kernel_rfl) rfl Tryz.results77 _ Tryz.ntmps77 (by simp) ?_
  simp -implicitDefEqProofs only [go_sem]
  refine callX [] (spec_WaitStep t.land t.base t.rule t.depots t.party s h1.cells h1.depots h1.crew h1.past) (by simp -implicitDefEqProofs only [go_sem]) ?_
  simp -implicitDefEqProofs only [go_sem]
  refine ⟨fun _ => ?_, fun k => absurd h.1 k⟩
  refine callX [] (spec_IsTrek t h1) (by simp -implicitDefEqProofs only [go_sem]) ?_
  simp -implicitDefEqProofs only [go_sem]
  refine ⟨fun k => absurd h.2.1 k, fun _ => ?_⟩
  refine ⟨some [1064, 1320, 1321, 1560, 1624, 1625], by decide +kernel, ?_⟩
  simp -implicitDefEqProofs only [go_sem]
  refine ⟨room_s h1.depots (by decide), ?_⟩
  refine callXHQ [1320, 1321, 1560] [] (by decide) (spec_l34Day t (waitStepZ t.land t.base t.rule t.depots t.party s) t.depots h1 hfit h1.depots waitStepZ_crew) (by decide) (by simp -implicitDefEqProofs only [go_sem]) ?_
  simp -implicitDefEqProofs only [go_sem, invOf]
  refine callXHQ [1624, 1560, 1320, 1321, 1625] [] (by decide) (spec_l34Done_yes t (dayT t (waitStepZ t.land t.base t.rule t.depots t.party s) t.depots) h1 hday h.2.1 h.2.2) (by decide) (by simp -implicitDefEqProofs only [go_sem]) ?_
  simp -implicitDefEqProofs only [go_sem, invOf]
 ·rw [dayR, if_neg h, show decide (dayP t (waitStepZ t.land t.base t.rule t.depots t.party s) t.depots (waitStepP t.land t.base t.rule t.depots t.party s)) = false from decide_eq_false h]
  refine SC.of_W mixed Tryz.func77 (by kernel_rfl) rfl Tryz.results77 _ Tryz.ntmps77 (by simp) ?_
  simp -implicitDefEqProofs only [go_sem]
  refine callX [] (spec_WaitStep t.land t.base t.rule t.depots t.party s h1.cells h1.depots h1.crew h1.past) (by simp -implicitDefEqProofs only [go_sem]) ?_
  simp -implicitDefEqProofs only [go_sem]
  refine ⟨fun h2 => ?_, fun h2 => ?_⟩
  ·refine callX [] (spec_IsTrek t h1) (by simp -implicitDefEqProofs only [go_sem]) ?_
   simp -implicitDefEqProofs only [go_sem]
   refine ⟨fun h3 => ?_, fun h3 => ?_⟩
   ·refine callX [] (spec_l33Copy t h1) (by simp -implicitDefEqProofs only [go_sem]) ?_
    simp -implicitDefEqProofs only [go_sem]
   ·refine ⟨some [1064, 1320, 1321, 1560, 1624, 1625], by decide +kernel, ?_⟩
    simp -implicitDefEqProofs only [go_sem]
    refine ⟨room_s h1.depots (by decide), ?_⟩
    refine callXHQ [1320, 1321, 1560] [] (by decide) (spec_l34Day t (waitStepZ t.land t.base t.rule t.depots t.party s) t.depots h1 hfit h1.depots waitStepZ_crew) (by decide) (by simp -implicitDefEqProofs only [go_sem]) ?_
    simp -implicitDefEqProofs only [go_sem, invOf]
    refine callXNQ [1624, 1560, 1320, 1321, 1625] [] (by decide) (spec_l34Done_no t (dayT t (waitStepZ t.land t.base t.rule t.depots t.party s) t.depots) true h1 hday (fun k => h ⟨h2, h3, k.2.2⟩)) (by decide) (by simp -implicitDefEqProofs only [go_sem]) (by simp -implicitDefEqProofs only [go_sem]) ?_
    simp -implicitDefEqProofs only [go_sem, invOf]
  ·refine callX [] (spec_l33Copy t h1) (by simp -implicitDefEqProofs only [go_sem]) ?_
   simp -implicitDefEqProofs only [go_sem]
end Go.Abs
