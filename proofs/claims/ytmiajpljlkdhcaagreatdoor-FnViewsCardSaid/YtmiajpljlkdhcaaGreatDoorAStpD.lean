/- A day of an expedition. -/
import Derived.Test.YtmiajpljlkdhcaaGreatDoorAStp
namespace Go.Abs
open Go.RowKit Go.Proofs
set_option linter.unusedVariables false
set_option linter.unusedSimpArgs false
set_option maxRecDepth 100000
set_option maxHeartbeats 4000000

attribute [go_sem] dayT
theorem pages_hi {t : DTrek} (h : (100 : Int) ≤ t.journal.length) : pagesOf t = [] := if_pos (by omega)
theorem pages_lo {t : DTrek} (h : ¬ (100 : Int) ≤ t.journal.length) : pagesOf t = t.journal := if_neg (by omega)
theorem spec_WritePage_e (L l : List DPage) (e : L = l) (day cell food : Int) (hl : l.length ≤ 1048575) (hw : ∀ p ∈ l, p.wf) (h1 : I64 day) (h2 : I64 cell) (h3 : I64 food) :
    SC Tryz.prog 49 [.at (.im 4 (l.map DPage.row)), .at (.v (.int .i64 day)), .at (.v (.int .i64 cell)), .at (.v (.int .i64 food))] [] (.tp [.at (.fr 4 ((writeL L day cell food).map DPage.row)), .at (.v (.bool (decide (writeP L day cell food))))]) [] := by
  subst e; exact spec_WritePage L day cell food hl hw h1 h2 h3
def DParty.ows (p : DParty) : List A := [.v (.int .i64 p.at_), .v (.int .i64 p.food), .ow 0 0 4 p.crew.length, .ow 1 0 1 p.past.length]
attribute [go_sem] DParty.ows
/-- The depots, the crew and the past are what was handed over. -/
def DTrek.mix (p : DTrek) : List A := [.v (.int .i64 p.land.w), .v (.int .i64 p.land.h), .fr 1 (p.land.cells.map intRow), .v (.int .i64 p.base), .v (.int .i64 p.rule.most), .v (.int .i64 p.rule.window), .ow 2 0 2 p.depots.length, .v (.int .i64 p.party.at_), .v (.int .i64 p.party.food), .ow 0 0 4 p.party.crew.length, .ow 1 0 1 p.party.past.length, .fr 4 (p.journal.map DPage.row), .v (.int .i64 p.day), .v (.int .i64 p.given), .v (.int .i64 p.eaten)]
attribute [go_sem] DTrek.mix
def dayOk (t : DTrek) (p : DParty) (l : List DDepot) (ok : Bool) : Prop := (ok = true ∧ writeP (pagesOf t) (IntKind.i64.wrap (t.day + 1)) p.at_ p.food) ∧ trekP t ∧ trekP (dayT t p l)
theorem spec_l34Day (t : DTrek) (p : DParty) (l : List DDepot) (ht : t.Fit) (hp : p.Fit) (hl : l.length ≤ 1048576) (hc : p.crew = t.party.crew) :
    SC Tryz.prog 94 [.ag t.ats, .ag p.ows, .at (.ow 2 0 2 l.length)] [.arr 0 4 (p.crew.map DMember.row), .arr 0 1 (p.past.map boolRow), .arr 0 2 (l.map DDepot.row)] (.ag (dayT t p l).mix) [.arr 0 4 (p.crew.map DMember.row), .arr 0 1 (p.past.map boolRow), .arr 0 2 (l.map DDepot.row)] := by
  refine SC.of_H mixed Tryz.func94 (by kernel_rfl) rfl Tryz.results94 _ Tryz.ntmps94 (by simp) (by simp) ?_
  simp -implicitDefEqProofs only [go_sem, invOf]
  refine callX [] (spec_l33Copy t ht) (by simp -implicitDefEqProofs only [go_sem]) ?_
  simp -implicitDefEqProofs only [go_sem]
  refine ⟨some [], by decide +kernel, ?_⟩
  simp -implicitDefEqProofs only [go_sem]
  refine callXQ [0] (spec_NeedOf p.crew hp.crew) (by simp -implicitDefEqProofs only [go_sem]) ?_
  simp -implicitDefEqProofs only [go_sem]
  have hj := ht.journal
  refine ⟨fun h0 => ?_, fun h0 => ?_⟩
  · refine callX [] (spec_WritePage_e (pagesOf t) [] (pages_hi h0) (IntKind.i64.wrap (t.day + 1)) p.at_ p.food (by simp) (by intro q hq; cases hq) (I64_wrap _) hp.at_ hp.food) (by simp -implicitDefEqProofs only [go_sem]) ?_
    simp -implicitDefEqProofs only [go_sem]
    simp -implicitDefEqProofs only [go_sem, invOf]
    rw [hc]
  · refine callX [1164] (spec_WritePage_e (pagesOf t) t.journal (pages_lo h0) (IntKind.i64.wrap (t.day + 1)) p.at_ p.food (by omega) ht.pages (I64_wrap _) hp.at_ hp.food) (by simp -implicitDefEqProofs only [go_sem]) ?_
    simp -implicitDefEqProofs only [go_sem]
    simp -implicitDefEqProofs only [go_sem, invOf]
    rw [hc]
end Go.Abs
