/- Food is laid and taken. -/
import Derived.Test.YthobmgkagcampaaGreatDoorAStpX
namespace Go.Abs
open Go.RowKit Go.Proofs
set_option linter.all false
set_option maxRecDepth 100000
set_option maxHeartbeats 4000000
theorem impl_StepHome (t : DTrek) (s : Bool) (ht : t.Sane) : SC Tryz.prog 104 [.ag t.ats, .at (.v (.bool s))] [] (.tp [.ag (dayR t (retZ t.land t.base t.rule t.depots t.party s) (retL t.land t.base t.rule t.depots t.party s) (retP t.land t.base t.rule t.depots t.party s)).frs, .at (.v (.bool (decide (dayP t (retZ t.land t.base t.rule t.depots t.party s) (retL t.land t.base t.rule t.depots t.party s) (retP t.land t.base t.rule t.depots t.party s)))))]) [] := by
 have h1 := ht.fit
 have hfit : ((retZ t.land t.base t.rule t.depots t.party s)).Fit := retZ_fit ht.party
 have hl : ((retL t.land t.base t.rule t.depots t.party s)).length <= 1048576 := Nat.le_trans (retL_len t.land t.base t.rule t.depots t.party s) h1.depots
 by_cases h : dayP t (retZ t.land t.base t.rule t.depots t.party s) (retL t.land t.base t.rule t.depots t.party s) (retP t.land t.base t.rule t.depots t.party s)
 ·rw [dayR, if_pos h, show decide (dayP t (retZ t.land t.base t.rule t.depots t.party s) (retL t.land t.base t.rule t.depots t.party s) (retP t.land t.base t.rule t.depots t.party s)) = true from decide_eq_true h]
  refine SC.of_W mixed Tryz.func104 (by kernel_rfl) rfl Tryz.results104 _ Tryz.ntmps104 (by simp) ?_
  simp -implicitDefEqProofs only [go_sem]
  refine callX [] (impl_ReturnStep t.land t.base t.rule t.depots t.party s h1.cells h1.depots h1.crew h1.past) (by simp -implicitDefEqProofs only [go_sem]) ?_
  simp -implicitDefEqProofs only [go_sem]
  rw [decide_eq_true h.1]
  refine callXHB [1336, 1337, 1338] [] (impl_day_yes t (retZ t.land t.base t.rule t.depots t.party s) (retL t.land t.base t.rule t.depots t.party s) h1 hfit hl ⟨⟨rfl, writeP_of h.2.1 h.2.2⟩, h.2⟩) (by decide) (by simp -implicitDefEqProofs only [go_sem]) ?_
  simp -implicitDefEqProofs only [go_sem, invOf]
 ·rw [dayR, if_neg h, show decide (dayP t (retZ t.land t.base t.rule t.depots t.party s) (retL t.land t.base t.rule t.depots t.party s) (retP t.land t.base t.rule t.depots t.party s)) = false from decide_eq_false h]
  refine SC.of_W mixed Tryz.func104 (by kernel_rfl) rfl Tryz.results104 _ Tryz.ntmps104 (by simp) ?_
  simp -implicitDefEqProofs only [go_sem]
  refine callX [] (impl_ReturnStep t.land t.base t.rule t.depots t.party s h1.cells h1.depots h1.crew h1.past) (by simp -implicitDefEqProofs only [go_sem]) ?_
  simp -implicitDefEqProofs only [go_sem]
  refine callXNB [1336, 1337, 1338] [] (impl_day_no t (retZ t.land t.base t.rule t.depots t.party s) (retL t.land t.base t.rule t.depots t.party s) (decide (retP t.land t.base t.rule t.depots t.party s)) h1 hfit hl (fun k => h (dayOk_iff.1 k))) (by decide) (by simp -implicitDefEqProofs only [go_sem]) (by simp -implicitDefEqProofs only [go_sem]) ?_
  simp -implicitDefEqProofs only [go_sem, invOf]
theorem spec_StepHome (t : DTrek) (s : Bool) (ht : t.Sane) : SC Tryz.prog 76 [.ag t.ats, .at (.v (.bool s))] [] (.tp [.ag (dayR t (retZ t.land t.base t.rule t.depots t.party s) (retL t.land t.base t.rule t.depots t.party s) (retP t.land t.base t.rule t.depots t.party s)).frs, .at (.v (.bool (decide (dayP t (retZ t.land t.base t.rule t.depots t.party s) (retL t.land t.base t.rule t.depots t.party s) (retP t.land t.base t.rule t.depots t.party s)))))]) [] := by
 have h1 := ht.fit
 have hfit : ((retZ t.land t.base t.rule t.depots t.party s)).Fit := retZ_fit ht.party
 have hl : ((retL t.land t.base t.rule t.depots t.party s)).length <= 1048576 := Nat.le_trans (retL_len t.land t.base t.rule t.depots t.party s) h1.depots
 by_cases h : dayP t (retZ t.land t.base t.rule t.depots t.party s) (retL t.land t.base t.rule t.depots t.party s) (retP t.land t.base t.rule t.depots t.party s)
 ·rw [dayR, if_pos h, show decide (dayP t (retZ t.land t.base t.rule t.depots t.party s) (retL t.land t.base t.rule t.depots t.party s) (retP t.land t.base t.rule t.depots t.party s)) = true from decide_eq_true h]
  refine SC.of_W mixed Tryz.func76 (by kernel_rfl) rfl Tryz.results76 _ Tryz.ntmps76 (by simp) ?_
  simp -implicitDefEqProofs only [go_sem]
  refine callX [] (spec_ReturnStep t.land t.base t.rule t.depots t.party s h1.cells h1.depots h1.crew h1.past) (by simp -implicitDefEqProofs only [go_sem]) ?_
  simp -implicitDefEqProofs only [go_sem]
  refine ⟨fun _ => ?_, fun k => absurd h.1 k⟩
  refine callX [] (spec_IsTrek t h1) (by simp -implicitDefEqProofs only [go_sem]) ?_
  simp -implicitDefEqProofs only [go_sem]
  refine ⟨fun k => absurd h.2.1 k, fun _ => ?_⟩
  refine ⟨some [1064, 1336, 1337, 1338, 1608, 1609], by decide +kernel, ?_⟩
  simp -implicitDefEqProofs only [go_sem]
  refine callXHQ [1336, 1337, 1338] [] (by decide) (spec_l34Day t (retZ t.land t.base t.rule t.depots t.party s) (retL t.land t.base t.rule t.depots t.party s) h1 hfit hl retZ_crew) (by decide) (by simp -implicitDefEqProofs only [go_sem]) ?_
  simp -implicitDefEqProofs only [go_sem, invOf]
  refine callXHQ [1608, 1338, 1336, 1337, 1609] [] (by decide) (spec_l34Done_yes t (dayT t (retZ t.land t.base t.rule t.depots t.party s) (retL t.land t.base t.rule t.depots t.party s)) h1 (dayT_fit h1 hfit hl) h.2.1 h.2.2) (by decide) (by simp -implicitDefEqProofs only [go_sem]) ?_
  simp -implicitDefEqProofs only [go_sem, invOf]
 ·rw [dayR, if_neg h, show decide (dayP t (retZ t.land t.base t.rule t.depots t.party s) (retL t.land t.base t.rule t.depots t.party s) (retP t.land t.base t.rule t.depots t.party s)) = false from decide_eq_false h]
  refine SC.of_W mixed Tryz.func76 (by kernel_rfl) rfl Tryz.results76 _ Tryz.ntmps76 (by simp) ?_
  simp -implicitDefEqProofs only [go_sem]
  refine callX [] (spec_ReturnStep t.land t.base t.rule t.depots t.party s h1.cells h1.depots h1.crew h1.past) (by simp -implicitDefEqProofs only [go_sem]) ?_
  simp -implicitDefEqProofs only [go_sem]
  refine ⟨fun h2 => ?_, fun h2 => ?_⟩
  ·refine callX [] (spec_IsTrek t h1) (by simp -implicitDefEqProofs only [go_sem]) ?_
   simp -implicitDefEqProofs only [go_sem]
   refine ⟨fun h3 => ?_, fun h3 => ?_⟩
   ·refine callX [] (spec_l33Copy t h1) (by simp -implicitDefEqProofs only [go_sem]) ?_
    simp -implicitDefEqProofs only [go_sem]
   ·refine ⟨some [1064, 1336, 1337, 1338, 1608, 1609], by decide +kernel, ?_⟩
    simp -implicitDefEqProofs only [go_sem]
    refine callXHQ [1336, 1337, 1338] [] (by decide) (spec_l34Day t (retZ t.land t.base t.rule t.depots t.party s) (retL t.land t.base t.rule t.depots t.party s) h1 hfit hl retZ_crew) (by decide) (by simp -implicitDefEqProofs only [go_sem]) ?_
    simp -implicitDefEqProofs only [go_sem, invOf]
    refine callXNQ [1608, 1338, 1336, 1337, 1609] [] (by decide) (spec_l34Done_no t (dayT t (retZ t.land t.base t.rule t.depots t.party s) (retL t.land t.base t.rule t.depots t.party s)) true h1 (dayT_fit h1 hfit hl) (fun k => h ⟨h2, h3, k.2.2⟩)) (by decide) (by simp -implicitDefEqProofs only [go_sem]) (by simp -implicitDefEqProofs only [go_sem]) ?_
    simp -implicitDefEqProofs only [go_sem, invOf]
  ·refine callX [] (spec_l33Copy t h1) (by simp -implicitDefEqProofs only [go_sem]) ?_
   simp -implicitDefEqProofs only [go_sem]
end Go.Abs
namespace Go.Abs
open Go.RowKit Go.Proofs
set_option linter.all false
set_option maxRecDepth 100000
set_option maxHeartbeats 4000000
theorem impl_StepLay (t : DTrek) (n : Int) (h1 : t.Fit) : SC Tryz.prog 105 [.ag t.ats, .at (.v (.int .i64 n))] [] (.tp [.ag (putR t (layStepZ t.land t.base t.rule t.depots t.party n) (layStepL t.land t.base t.rule t.depots t.party n) (mayLayP t.land t.base t.rule t.depots t.party n)).frs, .at (.v (.bool (decide (putP t (layStepZ t.land t.base t.rule t.depots t.party n) (layStepL t.land t.base t.rule t.depots t.party n) (mayLayP t.land t.base t.rule t.depots t.party n)))))]) [] := by
 have hl : ((layStepL t.land t.base t.rule t.depots t.party n)).length <= 1048576 := layStepL_len h1.depots (by decide)
 have hfit : (putT t (layStepZ t.land t.base t.rule t.depots t.party n) (layStepL t.land t.base t.rule t.depots t.party n)).Fit := putT_fit h1 ⟨layStepZ_c h1.crew, layStepZ_p h1.past⟩ hl
 by_cases h : putP t (layStepZ t.land t.base t.rule t.depots t.party n) (layStepL t.land t.base t.rule t.depots t.party n) (mayLayP t.land t.base t.rule t.depots t.party n)
 ·rw [putR, if_pos h, show decide (putP t (layStepZ t.land t.base t.rule t.depots t.party n) (layStepL t.land t.base t.rule t.depots t.party n) (mayLayP t.land t.base t.rule t.depots t.party n)) = true from decide_eq_true h]
  refine SC.of_W mixed Tryz.func105 (by kernel_rfl) rfl Tryz.results105 _ Tryz.ntmps105 (by simp) ?_
  simp -implicitDefEqProofs only [go_sem]
  refine callX [] (impl_Trek_copied t h1) (by simp -implicitDefEqProofs only [go_sem]) ?_
  simp -implicitDefEqProofs only [go_sem]
  refine callX [] (impl_LayStep t.land t.base t.rule t.depots t.party n h1.cells h1.depots h1.crew h1.past) (by simp -implicitDefEqProofs only [go_sem]) ?_
  simp -implicitDefEqProofs only [go_sem]
  rw [decide_eq_true h.1]
  refine callXHB [1144, 1354, 1352, 1353, 1148] [] (impl_becomes_yes t (putT t (layStepZ t.land t.base t.rule t.depots t.party n) (layStepL t.land t.base t.rule t.depots t.party n)) h1 hfit h.2.1 h.2.2) (by decide) (by simp -implicitDefEqProofs only [go_sem]) ?_
  simp -implicitDefEqProofs only [go_sem, invOf]
 ·rw [putR, if_neg h, show decide (putP t (layStepZ t.land t.base t.rule t.depots t.party n) (layStepL t.land t.base t.rule t.depots t.party n) (mayLayP t.land t.base t.rule t.depots t.party n)) = false from decide_eq_false h]
  refine SC.of_W mixed Tryz.func105 (by kernel_rfl) rfl Tryz.results105 _ Tryz.ntmps105 (by simp) ?_
  simp -implicitDefEqProofs only [go_sem]
  refine callX [] (impl_Trek_copied t h1) (by simp -implicitDefEqProofs only [go_sem]) ?_
  simp -implicitDefEqProofs only [go_sem]
  refine callX [] (impl_LayStep t.land t.base t.rule t.depots t.party n h1.cells h1.depots h1.crew h1.past) (by simp -implicitDefEqProofs only [go_sem]) ?_
  simp -implicitDefEqProofs only [go_sem]
  refine callXNB [1144, 1354, 1352, 1353, 1148] [] (impl_becomes_no t (putT t (layStepZ t.land t.base t.rule t.depots t.party n) (layStepL t.land t.base t.rule t.depots t.party n)) (decide (mayLayP t.land t.base t.rule t.depots t.party n)) h1 hfit (fun k => h ⟨of_decide_eq_true k.1, k.2⟩)) (by decide) (by simp -implicitDefEqProofs only [go_sem]) (by simp -implicitDefEqProofs only [go_sem]) ?_
  simp -implicitDefEqProofs only [go_sem, invOf]
theorem spec_StepLay (t : DTrek) (n : Int) (h1 : t.Fit) : SC Tryz.prog 75 [.ag t.ats, .at (.v (.int .i64 n))] [] (.tp [.ag (putR t (layStepZ t.land t.base t.rule t.depots t.party n) (layStepL t.land t.base t.rule t.depots t.party n) (mayLayP t.land t.base t.rule t.depots t.party n)).frs, .at (.v (.bool (decide (putP t (layStepZ t.land t.base t.rule t.depots t.party n) (layStepL t.land t.base t.rule t.depots t.party n) (mayLayP t.land t.base t.rule t.depots t.party n)))))]) [] := by
 have hl : ((layStepL t.land t.base t.rule t.depots t.party n)).length <= 1048576 := layStepL_len h1.depots (by decide)
 have hfit : (putT t (layStepZ t.land t.base t.rule t.depots t.party n) (layStepL t.land t.base t.rule t.depots t.party n)).Fit := putT_fit h1 ⟨layStepZ_c h1.crew, layStepZ_p h1.past⟩ hl
 by_cases h : putP t (layStepZ t.land t.base t.rule t.depots t.party n) (layStepL t.land t.base t.rule t.depots t.party n) (mayLayP t.land t.base t.rule t.depots t.party n)
 ·rw [putR, if_pos h, show decide (putP t (layStepZ t.land t.base t.rule t.depots t.party n) (layStepL t.land t.base t.rule t.depots t.party n) (mayLayP t.land t.base t.rule t.depots t.party n)) = true from decide_eq_true h]
  refine SC.of_W mixed Tryz.func75 (by kernel_rfl) rfl Tryz.results75 _ Tryz.ntmps75 (by simp) ?_
  simp -implicitDefEqProofs only [go_sem]
  refine callX [] (spec_LayStep t.land t.base t.rule t.depots t.party n h1.cells h1.depots h1.crew h1.past) (by simp -implicitDefEqProofs only [go_sem]) ?_
  simp -implicitDefEqProofs only [go_sem]
  refine callX [] (spec_l33Copy t h1) (by simp -implicitDefEqProofs only [go_sem]) ?_
  simp -implicitDefEqProofs only [go_sem]
  rw [decide_eq_true h.1]
  refine callXHB [1432, 1354, 1352, 1353, 1436] [] (spec_l34Done_yes t (putT t (layStepZ t.land t.base t.rule t.depots t.party n) (layStepL t.land t.base t.rule t.depots t.party n)) h1 hfit h.2.1 h.2.2) (by decide) (by simp -implicitDefEqProofs only [go_sem]) ?_
  simp -implicitDefEqProofs only [go_sem, invOf]
 ·rw [putR, if_neg h, show decide (putP t (layStepZ t.land t.base t.rule t.depots t.party n) (layStepL t.land t.base t.rule t.depots t.party n) (mayLayP t.land t.base t.rule t.depots t.party n)) = false from decide_eq_false h]
  refine SC.of_W mixed Tryz.func75 (by kernel_rfl) rfl Tryz.results75 _ Tryz.ntmps75 (by simp) ?_
  simp -implicitDefEqProofs only [go_sem]
  refine callX [] (spec_LayStep t.land t.base t.rule t.depots t.party n h1.cells h1.depots h1.crew h1.past) (by simp -implicitDefEqProofs only [go_sem]) ?_
  simp -implicitDefEqProofs only [go_sem]
  refine callX [] (spec_l33Copy t h1) (by simp -implicitDefEqProofs only [go_sem]) ?_
  simp -implicitDefEqProofs only [go_sem]
  refine callXNB [1432, 1354, 1352, 1353, 1436] [] (spec_l34Done_no t (putT t (layStepZ t.land t.base t.rule t.depots t.party n) (layStepL t.land t.base t.rule t.depots t.party n)) (decide (mayLayP t.land t.base t.rule t.depots t.party n)) h1 hfit (fun k => h ⟨of_decide_eq_true k.1, k.2⟩)) (by decide) (by simp -implicitDefEqProofs only [go_sem]) (by simp -implicitDefEqProofs only [go_sem]) ?_
  simp -implicitDefEqProofs only [go_sem, invOf]
theorem impl_StepTake (t : DTrek) (n : Int) (h1 : t.Fit) : SC Tryz.prog 106 [.ag t.ats, .at (.v (.int .i64 n))] [] (.tp [.ag (putR t (takeStepZ t.land t.base t.rule t.depots t.party n) (takeStepL t.land t.base t.rule t.depots t.party n) (takeStepP t.land t.base t.rule t.depots t.party n)).frs, .at (.v (.bool (decide (putP t (takeStepZ t.land t.base t.rule t.depots t.party n) (takeStepL t.land t.base t.rule t.depots t.party n) (takeStepP t.land t.base t.rule t.depots t.party n)))))]) [] := by
 have hl : ((takeStepL t.land t.base t.rule t.depots t.party n)).length <= 1048576 := Nat.le_trans (takeStepL_len t.land t.base t.rule t.depots t.party n) h1.depots
 have hfit : (putT t (takeStepZ t.land t.base t.rule t.depots t.party n) (takeStepL t.land t.base t.rule t.depots t.party n)).Fit := putT_fit h1 ⟨takeStepZ_c h1.crew, takeStepZ_p h1.past⟩ hl
 by_cases h : putP t (takeStepZ t.land t.base t.rule t.depots t.party n) (takeStepL t.land t.base t.rule t.depots t.party n) (takeStepP t.land t.base t.rule t.depots t.party n)
 ·rw [putR, if_pos h, show decide (putP t (takeStepZ t.land t.base t.rule t.depots t.party n) (takeStepL t.land t.base t.rule t.depots t.party n) (takeStepP t.land t.base t.rule t.depots t.party n)) = true from decide_eq_true h]
  refine SC.of_W mixed Tryz.func106 (by kernel_rfl) rfl Tryz.results106 _ Tryz.ntmps106 (by simp) ?_
  simp -implicitDefEqProofs only [go_sem]
  refine callX [] (impl_Trek_copied t h1) (by simp -implicitDefEqProofs only [go_sem]) ?_
  simp -implicitDefEqProofs only [go_sem]
  refine callX [] (impl_TakeStep t.land t.base t.rule t.depots t.party n h1.cells h1.depots h1.crew h1.past) (by simp -implicitDefEqProofs only [go_sem]) ?_
  simp -implicitDefEqProofs only [go_sem]
  rw [decide_eq_true h.1]
  refine callXHB [1144, 1354, 1352, 1353, 1148] [] (impl_becomes_yes t (putT t (takeStepZ t.land t.base t.rule t.depots t.party n) (takeStepL t.land t.base t.rule t.depots t.party n)) h1 hfit h.2.1 h.2.2) (by decide) (by simp -implicitDefEqProofs only [go_sem]) ?_
  simp -implicitDefEqProofs only [go_sem, invOf]
 ·rw [putR, if_neg h, show decide (putP t (takeStepZ t.land t.base t.rule t.depots t.party n) (takeStepL t.land t.base t.rule t.depots t.party n) (takeStepP t.land t.base t.rule t.depots t.party n)) = false from decide_eq_false h]
  refine SC.of_W mixed Tryz.func106 (by kernel_rfl) rfl Tryz.results106 _ Tryz.ntmps106 (by simp) ?_
  simp -implicitDefEqProofs only [go_sem]
  refine callX [] (impl_Trek_copied t h1) (by simp -implicitDefEqProofs only [go_sem]) ?_
  simp -implicitDefEqProofs only [go_sem]
  refine callX [] (impl_TakeStep t.land t.base t.rule t.depots t.party n h1.cells h1.depots h1.crew h1.past) (by simp -implicitDefEqProofs only [go_sem]) ?_
  simp -implicitDefEqProofs only [go_sem]
  refine callXNB [1144, 1354, 1352, 1353, 1148] [] (impl_becomes_no t (putT t (takeStepZ t.land t.base t.rule t.depots t.party n) (takeStepL t.land t.base t.rule t.depots t.party n)) (decide (takeStepP t.land t.base t.rule t.depots t.party n)) h1 hfit (fun k => h ⟨of_decide_eq_true k.1, k.2⟩)) (by decide) (by simp -implicitDefEqProofs only [go_sem]) (by simp -implicitDefEqProofs only [go_sem]) ?_
  simp -implicitDefEqProofs only [go_sem, invOf]
end Go.Abs
