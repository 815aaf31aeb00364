/- A day of an expedition. -/
import Derived.Test.YthobmgkagcampaaGreatDoorAStp
namespace Go.Abs
open Go.RowKit Go.Proofs
set_option linter.all false
set_option maxRecDepth 100000
set_option maxHeartbeats 4000000
attribute [go_sem] dayT
theorem pages_hi {t : DTrek} (h : (100 : Int) <= t.journal.length) : pagesOf t = [] := if_pos (by omega)
theorem pages_lo {t : DTrek} (h : ¬ (100 : Int) <= t.journal.length) : pagesOf t = t.journal := if_neg (by omega)
theorem impl_WritePage_e (L l : List DPage) (e : L = l) (day cell food : Int) (hl : l.length <= 1048575) (hw : ∀ p ∈ l, p.wf) (h1 : I64 day) (h2 : I64 cell) (h3 : I64 food) :
  SC Tryz.prog 282 [.at (.im 4 (l.map DPage.row)), .at (.v (.int .i64 day)), .at (.v (.int .i64 cell)), .at (.v (.int .i64 food))] [] (.tp [.at (.fr 4 ((writeL L day cell food).map DPage.row)), .at (.v (.bool (decide (writeP L day cell food))))]) [] := by
 subst e; exact impl_WritePage L day cell food hl hw h1 h2 h3
theorem spec_WritePage_e (L l : List DPage) (e : L = l) (day cell food : Int) (hl : l.length <= 1048575) (hw : ∀ p ∈ l, p.wf) (h1 : I64 day) (h2 : I64 cell) (h3 : I64 food) :
  SC Tryz.prog 253 [.at (.im 4 (l.map DPage.row)), .at (.v (.int .i64 day)), .at (.v (.int .i64 cell)), .at (.v (.int .i64 food))] [] (.tp [.at (.fr 4 ((writeL L day cell food).map DPage.row)), .at (.v (.bool (decide (writeP L day cell food))))]) [] := by
 subst e; exact spec_WritePage L day cell food hl hw h1 h2 h3
def DParty.ows (p : DParty) : List A := [.v (.int .i64 p.at_), .v (.int .i64 p.food), .ow 0 0 4 p.crew.length, .ow 1 0 1 p.past.length]
attribute [go_sem] DParty.ows
def DTrek.mix (p : DTrek) : List A := [.v (.int .i64 p.land.w), .v (.int .i64 p.land.h), .fr 1 (p.land.cells.map intRow), .v (.int .i64 p.base), .v (.int .i64 p.rule.most), .v (.int .i64 p.rule.window), .ow 2 0 2 p.depots.length, .v (.int .i64 p.party.at_), .v (.int .i64 p.party.food), .ow 0 0 4 p.party.crew.length, .ow 1 0 1 p.party.past.length, .fr 4 (p.journal.map DPage.row), .v (.int .i64 p.day), .v (.int .i64 p.given), .v (.int .i64 p.eaten)]
attribute [go_sem] DTrek.mix
def dayOk (t : DTrek) (p : DParty) (l : List DDepot) (ok : Bool) : Prop := (ok = true /\ writeP (pagesOf t) (IntKind.i64.wrap (t.day + 1)) p.at_ p.food) /\ trekP t /\ trekP (dayT t p l)
theorem impl_day_yes (t : DTrek) (p : DParty) (l : List DDepot) (ht : t.Fit) (hp : p.Fit) (hl : l.length <= 1048576) (h : dayOk t p l true) :
  SC Tryz.prog 207 [.ag t.ats, .ag p.ows, .at (.ow 2 0 2 l.length), .at (.v (.bool true))] [.arr 0 4 (p.crew.map DMember.row), .arr 0 1 (p.past.map boolRow), .arr 0 2 (l.map DDepot.row)] (.tp [.ag (dayT t p l).mix, .at (.v (.bool true))]) [.arr 0 4 (p.crew.map DMember.row), .arr 0 1 (p.past.map boolRow), .arr 0 2 (l.map DDepot.row)] := by
 refine SC.of_H mixed Tryz.func207 (by kernel_rfl) rfl Tryz.results207 _ Tryz.ntmps207 (by simp) (by simp) ?_
 simp -implicitDefEqProofs only [go_sem, invOf]
 refine callX [] (impl_Trek_copied t ht) (by simp -implicitDefEqProofs only [go_sem]) ?_
 simp -implicitDefEqProofs only [go_sem]
 refine ⟨some [], by decide +kernel, ?_⟩
 simp -implicitDefEqProofs only [go_sem]
 refine callXQ [] (impl_NeedOf t.party.crew ht.crew) (by simp -implicitDefEqProofs only [go_sem]) ?_
 simp -implicitDefEqProofs only [go_sem]
 have hj := ht.journal
 have hw : decide (writeP (pagesOf t) (IntKind.i64.wrap (t.day + 1)) p.at_ p.food) = true := decide_eq_true h.1.2
 have hfit := dayT_fit (l := l) ht hp hl
 refine ⟨fun h0 => ?_, fun h0 => ?_⟩
 ·refine callX [] (impl_WritePage_e (pagesOf t) [] (pages_hi h0) (IntKind.i64.wrap (t.day + 1)) p.at_ p.food (by simp) (by intro q hq; cases hq) (I64_wrap _) hp.at_ hp.food) (by simp -implicitDefEqProofs only [go_sem]) ?_
  simp -implicitDefEqProofs only [go_sem]
  rw [hw]
  refine callXHB [1240, 2, 0, 1, 1720] [] (impl_becomes_yes t (dayT t p l) ht hfit h.2.1 h.2.2) (by decide) (by simp -implicitDefEqProofs only [go_sem]) ?_
  simp -implicitDefEqProofs only [go_sem, invOf]
 ·refine callX [] (impl_WritePage_e (pagesOf t) t.journal (pages_lo h0) (IntKind.i64.wrap (t.day + 1)) p.at_ p.food (by omega) ht.pages (I64_wrap _) hp.at_ hp.food) (by simp -implicitDefEqProofs only [go_sem]) ?_
  simp -implicitDefEqProofs only [go_sem]
  rw [hw]
  refine callXHB [1240, 2, 0, 1, 1720] [] (impl_becomes_yes t (dayT t p l) ht hfit h.2.1 h.2.2) (by decide) (by simp -implicitDefEqProofs only [go_sem]) ?_
  simp -implicitDefEqProofs only [go_sem, invOf]
theorem impl_day_no (t : DTrek) (p : DParty) (l : List DDepot) (ok : Bool) (ht : t.Fit) (hp : p.Fit) (hl : l.length <= 1048576) (h : ¬ dayOk t p l ok) :
  SC Tryz.prog 207 [.ag t.ats, .ag p.ows, .at (.ow 2 0 2 l.length), .at (.v (.bool ok))] [.arr 0 4 (p.crew.map DMember.row), .arr 0 1 (p.past.map boolRow), .arr 0 2 (l.map DDepot.row)] (.tp [.ag t.frs, .at (.v (.bool false))]) [.arr 0 4 (p.crew.map DMember.row), .arr 0 1 (p.past.map boolRow), .arr 0 2 (l.map DDepot.row)] := by
 cases ok
 ·refine SC.of_M mixed Tryz.func207 (by kernel_rfl) rfl Tryz.results207 _ Tryz.ntmps207 (by simp) (by simp) ?_
  simp -implicitDefEqProofs only [go_sem, invOf]
  refine callX [] (impl_Trek_copied t ht) (by simp -implicitDefEqProofs only [go_sem]) ?_
  simp -implicitDefEqProofs only [go_sem]
  refine ⟨some [], by decide +kernel, ?_⟩
  simp -implicitDefEqProofs only [go_sem]
  refine callXQ [] (impl_NeedOf t.party.crew ht.crew) (by simp -implicitDefEqProofs only [go_sem]) ?_
  simp -implicitDefEqProofs only [go_sem]
  have hj := ht.journal
  have hfit := dayT_fit (l := l) ht hp hl
  have hno : ∀ b : Bool, b = false -> ¬ (b = true /\ trekP t /\ trekP (dayT t p l)) := fun b e k => by rw [e] at k; cases k.1
  refine ⟨fun h0 => ?_, fun h0 => ?_⟩
  ·refine callX [] (impl_WritePage_e (pagesOf t) [] (pages_hi h0) (IntKind.i64.wrap (t.day + 1)) p.at_ p.food (by simp) (by intro q hq; cases hq) (I64_wrap _) hp.at_ hp.food) (by simp -implicitDefEqProofs only [go_sem]) ?_
   simp -implicitDefEqProofs only [go_sem]
   refine callXNB [1240, 2, 0, 1, 1720] [] (impl_becomes_no t (dayT t p l) false ht hfit (hno _ rfl)) (by decide) (by simp -implicitDefEqProofs only [go_sem]) (by simp -implicitDefEqProofs only [go_sem]) ?_
   simp -implicitDefEqProofs only [go_sem, invOf]
  ·refine callX [] (impl_WritePage_e (pagesOf t) t.journal (pages_lo h0) (IntKind.i64.wrap (t.day + 1)) p.at_ p.food (by omega) ht.pages (I64_wrap _) hp.at_ hp.food) (by simp -implicitDefEqProofs only [go_sem]) ?_
   simp -implicitDefEqProofs only [go_sem]
   refine callXNB [1240, 2, 0, 1, 1720] [] (impl_becomes_no t (dayT t p l) false ht hfit (hno _ rfl)) (by decide) (by simp -implicitDefEqProofs only [go_sem]) (by simp -implicitDefEqProofs only [go_sem]) ?_
   simp -implicitDefEqProofs only [go_sem, invOf]
 ·refine SC.of_M mixed Tryz.func207 (by kernel_rfl) rfl Tryz.results207 _ Tryz.ntmps207 (by simp) (by simp) ?_
  simp -implicitDefEqProofs only [go_sem, invOf]
  refine callX [] (impl_Trek_copied t ht) (by simp -implicitDefEqProofs only [go_sem]) ?_
  simp -implicitDefEqProofs only [go_sem]
  refine ⟨some [], by decide +kernel, ?_⟩
  simp -implicitDefEqProofs only [go_sem]
  refine callXQ [] (impl_NeedOf t.party.crew ht.crew) (by simp -implicitDefEqProofs only [go_sem]) ?_
  simp -implicitDefEqProofs only [go_sem]
  have hj := ht.journal
  have hfit := dayT_fit (l := l) ht hp hl
  have hno : ¬ (decide (writeP (pagesOf t) (IntKind.i64.wrap (t.day + 1)) p.at_ p.food) = true /\ trekP t /\ trekP (dayT t p l)) := fun k => h ⟨⟨rfl, of_decide_eq_true k.1⟩, k.2⟩
  refine ⟨fun h0 => ?_, fun h0 => ?_⟩
  ·refine callX [] (impl_WritePage_e (pagesOf t) [] (pages_hi h0) (IntKind.i64.wrap (t.day + 1)) p.at_ p.food (by simp) (by intro q hq; cases hq) (I64_wrap _) hp.at_ hp.food) (by simp -implicitDefEqProofs only [go_sem]) ?_
   simp -implicitDefEqProofs only [go_sem]
   refine callXNB [1240, 2, 0, 1, 1720] [] (impl_becomes_no t (dayT t p l) _ ht hfit hno) (by decide) (by simp -implicitDefEqProofs only [go_sem]) (by simp -implicitDefEqProofs only [go_sem]) ?_
   simp -implicitDefEqProofs only [go_sem, invOf]
  ·refine callX [] (impl_WritePage_e (pagesOf t) t.journal (pages_lo h0) (IntKind.i64.wrap (t.day + 1)) p.at_ p.food (by omega) ht.pages (I64_wrap _) hp.at_ hp.food) (by simp -implicitDefEqProofs only [go_sem]) ?_
   simp -implicitDefEqProofs only [go_sem]
   refine callXNB [1240, 2, 0, 1, 1720] [] (impl_becomes_no t (dayT t p l) _ ht hfit hno) (by decide) (by simp -implicitDefEqProofs only [go_sem]) (by simp -implicitDefEqProofs only [go_sem]) ?_
   simp -implicitDefEqProofs only [go_sem, invOf]
theorem spec_l34Day (t : DTrek) (p : DParty) (l : List DDepot) (ht : t.Fit) (hp : p.Fit) (hl : l.length <= 1048576) (hc : p.crew = t.party.crew) :
  SC Tryz.prog 167 [.ag t.ats, .ag p.ows, .at (.ow 2 0 2 l.length)] [.arr 0 4 (p.crew.map DMember.row), .arr 0 1 (p.past.map boolRow), .arr 0 2 (l.map DDepot.row)] (.ag (dayT t p l).mix) [.arr 0 4 (p.crew.map DMember.row), .arr 0 1 (p.past.map boolRow), .arr 0 2 (l.map DDepot.row)] := by
 refine SC.of_H mixed Tryz.func167 (by kernel_rfl) rfl Tryz.results167 _ Tryz.ntmps167 (by simp) (by simp) ?_
 simp -implicitDefEqProofs only [go_sem, invOf]
 refine callX [] (spec_l33Copy t ht) (by simp -implicitDefEqProofs only [go_sem]) ?_
 simp -implicitDefEqProofs only [go_sem]
 refine ⟨some [], by decide +kernel, ?_⟩
 simp -implicitDefEqProofs only [go_sem]
 refine callXQ [0] (spec_NeedOf p.crew hp.crew) (by simp -implicitDefEqProofs only [go_sem]) ?_
 simp -implicitDefEqProofs only [go_sem]
 have hj := ht.journal
 refine ⟨fun h0 => ?_, fun h0 => ?_⟩
 ·refine callX [] (spec_WritePage_e (pagesOf t) [] (pages_hi h0) (IntKind.i64.wrap (t.day + 1)) p.at_ p.food (by simp) (by intro q hq; cases hq) (I64_wrap _) hp.at_ hp.food) (by simp -implicitDefEqProofs only [go_sem]) ?_
  simp -implicitDefEqProofs only [go_sem]
  simp -implicitDefEqProofs only [go_sem, invOf]
  rw [hc]
 ·refine callX [1164] (spec_WritePage_e (pagesOf t) t.journal (pages_lo h0) (IntKind.i64.wrap (t.day + 1)) p.at_ p.food (by omega) ht.pages (I64_wrap _) hp.at_ hp.food) (by simp -implicitDefEqProofs only [go_sem]) ?_
  simp -implicitDefEqProofs only [go_sem]
  simp -implicitDefEqProofs only [go_sem, invOf]
  rw [hc]
end Go.Abs
