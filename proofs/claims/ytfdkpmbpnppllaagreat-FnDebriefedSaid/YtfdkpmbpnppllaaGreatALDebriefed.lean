/- The law FnDebriefed: its walk. -/
import Derived.Test.YtfdkpmbpnppllaaGreatADrawF
import Derived.Test.YtfdkpmbpnppllaaGreatAJournal
import Derived.Test.YtfdkpmbpnppllaaGreatAWay
import Derived.Test.YtfdkpmbpnppllaaGreatAEvtZ
import Derived.Test.YtfdkpmbpnppllaaGreatACount
import Derived.Test.YtfdkpmbpnppllaaGreatACur
import Derived.Test.YtfdkpmbpnppllaaGreatAHarn
namespace Go.Abs
open Go.RowKit Go.Proofs
set_option linter.unusedVariables false
set_option linter.unusedSimpArgs false
set_option maxRecDepth 100000
set_option maxHeartbeats 4000000

/-! ### Pages -/
noncomputable def pg (code : List Int) : List DPage := if onceV (newCur code) 3 = true then (any21 (belowS (newCur code) 3)).1 else (runX code).journal
theorem pg_ok {code : List Int} (h : code.length ≤ 1099511627776) : (pg code).length ≤ 1048576 ∧ ∀ p ∈ pg code, p.wf := by
  have h1 := any21_ok (belowS_ok (newCur_ok h) 3)
  have h2 := (runX_ok h).1.fit
  unfold pg
  split
  · exact ⟨Nat.le_trans h1.1 (by decide), h1.2.1⟩
  · exact ⟨h2.journal, h2.pages⟩
theorem spec_l38Pages (code : List Int) (hl : code.length ≤ 1099511627776) : SC Tryz.prog 114 [.at (.im 1 (code.map byteRow))] [] (.tp [.ag (runX code).land.ats, .at (.im 4 ((pg code).map DPage.row))]) [] := by
  have hr := run36_ok hl
  have hn := newCur_ok hl
  refine SC.of_W mixed Tryz.func114 (by kernel_rfl) rfl Tryz.results114 _ Tryz.ntmps114 (by simp) ?_
  simp -implicitDefEqProofs only [go_sem]
  refine callX [] ((spec_DrawRunEvents code hl).frozen) (by simp -implicitDefEqProofs only [go_sem]) ?_
  simp -implicitDefEqProofs only [go_sem]
  refine callX [] ((spec_RunEvents (runT0 code) (runL code) hr.1.sane (by omega) (fun e he => (hr.2.2.2.2.2.1 e he).1.i64)).frozen) (by simp -implicitDefEqProofs only [go_sem]) ?_
  simp -implicitDefEqProofs only [go_sem]
  rw [show runZ (runT0 code) (runL code) = runX code from rfl]
  refine callX [] (spec_l1New code hl) (by simp -implicitDefEqProofs only [go_sem]) ?_
  simp -implicitDefEqProofs only [go_sem]
  refine callXNB [1272] [] (spec_l1Once (newCur code) 3 hn) (by decide) (by simp -implicitDefEqProofs only [go_sem]) (by simp -implicitDefEqProofs only [go_sem]) ?_
  simp -implicitDefEqProofs only [go_sem]
  refine ⟨fun k => ?_, fun k => ?_⟩
  · have e : pg code = (any21 (belowS (newCur code) 3)).1 := if_pos k
    rw [e]
    refine ⟨some [999999, 1272, 1032], by decide +kernel, ?_⟩
    simp -implicitDefEqProofs only [go_sem]
    refine callXNQ [1272] [] (by decide) ((spec_l21Any (belowS (newCur code) 3) (belowS_ok hn 3)).frozenX (by simp) cur_plainS) (by decide) (by simp -implicitDefEqProofs only [go_sem]) (by simp -implicitDefEqProofs only [go_sem]) ?_
    simp -implicitDefEqProofs only [go_sem]
  · have e : pg code = (runX code).journal := if_neg (by rw [k]; decide)
    rw [e]
    refine ⟨some [1032], by decide +kernel, ?_⟩
    simp -implicitDefEqProofs only [go_sem]
theorem spec_DrawStillDays (code : List Int) (hl : code.length ≤ 1099511627776) : SC Tryz.prog 57 [.at (.im 1 (code.map byteRow))] [] (.at (.im 4 ((pg code).map DPage.row))) [] := by
  refine SC.of_W mixed Tryz.func57 (by kernel_rfl) rfl Tryz.results57 _ Tryz.ntmps57 (by simp) ?_
  simp -implicitDefEqProofs only [go_sem]
  refine callX [] (spec_l38Pages code hl) (by simp -implicitDefEqProofs only [go_sem]) ?_
  simp -implicitDefEqProofs only [go_sem]
noncomputable def dnC (code : List Int) : Int := belowV (newCur code) 12
noncomputable def dnF (code : List Int) : Int := belowV (belowS (newCur code) 12) 4 - 1
theorem spec_DrawDaysNear (code : List Int) (hl : code.length ≤ 1099511627776) : SC Tryz.prog 58 [.at (.im 1 (code.map byteRow))] [] (.tp [.ag (runX code).land.ats, .at (.im 4 ((pg code).map DPage.row)), .at (.v (.int .i64 (dnC code))), .at (.v (.int .i64 (dnF code)))]) [] := by
  have hn := newCur_ok hl
  have hb := belowV_bnd (belowS (newCur code) 12) 4
  have hb2 := hb.2.1 (by omega)
  refine SC.of_W mixed Tryz.func58 (by kernel_rfl) rfl Tryz.results58 _ Tryz.ntmps58 (by simp) ?_
  simp -implicitDefEqProofs only [go_sem]
  refine callX [] (spec_l38Pages code hl) (by simp -implicitDefEqProofs only [go_sem]) ?_
  simp -implicitDefEqProofs only [go_sem]
  refine callX [] (spec_l1New code hl) (by simp -implicitDefEqProofs only [go_sem]) ?_
  simp -implicitDefEqProofs only [go_sem]
  refine callXNB [1256] [] (spec_l1Below (newCur code) 12 hn) (by decide) (by simp -implicitDefEqProofs only [go_sem]) (by simp -implicitDefEqProofs only [go_sem]) ?_
  simp -implicitDefEqProofs only [go_sem]
  refine ⟨some [999999, 1256, 1032], by decide +kernel, ?_⟩
  simp -implicitDefEqProofs only [go_sem]
  refine callXNQ [1256] [] (by decide) (spec_l1Below (belowS (newCur code) 12) 4 (belowS_ok hn 12)) (by decide) (by simp -implicitDefEqProofs only [go_sem]) (by simp -implicitDefEqProofs only [go_sem]) ?_
  simp -implicitDefEqProofs only [go_sem]
  rw [wrap64 (by omega) (by omega)]
  exact ⟨rfl, rfl⟩
theorem spec_DrawLowestFood (code : List Int) (hl : code.length ≤ 1099511627776) : SC Tryz.prog 60 [.at (.im 1 (code.map byteRow))] [] (.at (.im 4 ((pg code).map DPage.row))) [] := by
  refine SC.of_W mixed Tryz.func60 (by kernel_rfl) rfl Tryz.results60 _ Tryz.ntmps60 (by simp) ?_
  simp -implicitDefEqProofs only [go_sem]
  refine callX [] (spec_DrawStillDays code hl) (by simp -implicitDefEqProofs only [go_sem]) ?_
  simp -implicitDefEqProofs only [go_sem]
theorem spec_DrawFirstAt (code : List Int) (hl : code.length ≤ 1099511627776) : SC Tryz.prog 62 [.at (.im 1 (code.map byteRow))] [] (.tp [.at (.im 4 ((pg code).map DPage.row)), .at (.v (.int .i64 (dnC code)))]) [] := by
  have hn := newCur_ok hl
  refine SC.of_W mixed Tryz.func62 (by kernel_rfl) rfl Tryz.results62 _ Tryz.ntmps62 (by simp) ?_
  simp -implicitDefEqProofs only [go_sem]
  refine callX [] (spec_l1New code hl) (by simp -implicitDefEqProofs only [go_sem]) ?_
  simp -implicitDefEqProofs only [go_sem]
  refine callX [] (spec_DrawStillDays code hl) (by simp -implicitDefEqProofs only [go_sem]) ?_
  simp -implicitDefEqProofs only [go_sem]
  refine callXNB [1096] [] (spec_l1Below (newCur code) 12 hn) (by decide) (by simp -implicitDefEqProofs only [go_sem]) (by simp -implicitDefEqProofs only [go_sem]) ?_
  simp -implicitDefEqProofs only [go_sem]
  rfl
/-! ### Journals, lands, rules -/
noncomputable def vj (code : List Int) : List DPage := (any21 (newCur code)).1
theorem spec_DrawIsJournal (code : List Int) (hl : code.length ≤ 1099511627776) : SC Tryz.prog 102 [.at (.im 1 (code.map byteRow))] [] (.at (.im 4 ((vj code).map DPage.row))) [] := by
  refine SC.of_W mixed Tryz.func102 (by kernel_rfl) rfl Tryz.results102 _ Tryz.ntmps102 (by simp) ?_
  simp -implicitDefEqProofs only [go_sem]
  refine callX [] (spec_l1New code hl) (by simp -implicitDefEqProofs only [go_sem]) ?_
  simp -implicitDefEqProofs only [go_sem]
  refine callXNB [1080] [] ((spec_l21Any (newCur code) (newCur_ok hl)).frozenX (by simp) cur_plainS) (by decide) (by simp -implicitDefEqProofs only [go_sem]) (by simp -implicitDefEqProofs only [go_sem]) ?_
  simp -implicitDefEqProofs only [go_sem]
  rfl
theorem spec_DrawVisited (code : List Int) (hl : code.length ≤ 1099511627776) : SC Tryz.prog 40 [.at (.im 1 (code.map byteRow))] [] (.at (.im 4 ((vj code).map DPage.row))) [] := by
  refine SC.of_W mixed Tryz.func40 (by kernel_rfl) rfl Tryz.results40 _ Tryz.ntmps40 (by simp) ?_
  simp -implicitDefEqProofs only [go_sem]
  refine callX [] (spec_DrawIsJournal code hl) (by simp -implicitDefEqProofs only [go_sem]) ?_
  simp -implicitDefEqProofs only [go_sem]
noncomputable def foX (code : List Int) : DLand × DCur := anyF (newCur code)
noncomputable def foB (code : List Int) : Int := belowV (foX code).2 9
noncomputable def foL (code : List Int) : List DPage := (any21 (belowS (foX code).2 9)).1
theorem fo_ok {code : List Int} (h : code.length ≤ 1099511627776) : (foX code).1.cells.length ≤ 30 ∧ (foX code).2.Ok ∧ (foL code).length ≤ 7 := by
  have h1 := anyF_ok (newCur_ok h)
  exact ⟨h1.1, h1.2, (any21_ok (belowS_ok h1.2 9)).1⟩
theorem spec_DrawFarthestOut (code : List Int) (hl : code.length ≤ 1099511627776) : SC Tryz.prog 43 [.at (.im 1 (code.map byteRow))] [] (.tp [.ag (foX code).1.ats, .at (.v (.int .i64 (foB code))), .at (.im 4 ((foL code).map DPage.row))]) [] := by
  have h := fo_ok hl
  refine SC.of_W mixed Tryz.func43 (by kernel_rfl) rfl Tryz.results43 _ Tryz.ntmps43 (by simp) ?_
  simp -implicitDefEqProofs only [go_sem]
  refine callX [] (spec_l1New code hl) (by simp -implicitDefEqProofs only [go_sem]) ?_
  simp -implicitDefEqProofs only [go_sem]
  refine callXNB [1144] [] ((spec_l4Any (newCur code) (newCur_ok hl)).frozenX (by simp) cur_plainS) (by decide) (by simp -implicitDefEqProofs only [go_sem]) (by simp -implicitDefEqProofs only [go_sem]) ?_
  simp -implicitDefEqProofs only [go_sem]
  rw [show anyF (newCur code) = foX code from rfl]
  refine callXNB [1144] [] (spec_l1Below (foX code).2 9 h.2.1) (by decide) (by simp -implicitDefEqProofs only [go_sem]) (by simp -implicitDefEqProofs only [go_sem]) ?_
  simp -implicitDefEqProofs only [go_sem]
  rw [show belowV (foX code).2 9 = foB code from rfl]
  refine ⟨some [999999, 1144, 1032], by decide +kernel, ?_⟩
  simp -implicitDefEqProofs only [go_sem]
  refine callXNQ [1144] [] (by decide) ((spec_l21Any (belowS (foX code).2 9) (belowS_ok h.2.1 9)).frozenX (by simp) cur_plainS) (by decide) (by simp -implicitDefEqProofs only [go_sem]) (by simp -implicitDefEqProofs only [go_sem]) ?_
  simp -implicitDefEqProofs only [go_sem]
  rfl
noncomputable def icA (code : List Int) : DCur := belowS (belowS (foX code).2 30) 30
noncomputable def icC (code : List Int) : Int := intV (rawC (icA code)) [belowV (foX code).2 30, belowV (belowS (foX code).2 30) 30, 0, rawV (icA code)]
theorem spec_DrawIsCell (code : List Int) (hl : code.length ≤ 1099511627776) : SC Tryz.prog 107 [.at (.im 1 (code.map byteRow))] [] (.tp [.ag (foX code).1.ats, .at (.v (.int .i64 (icC code)))]) [] := by
  have h := fo_ok hl
  have h1 : (belowS (foX code).2 30).Ok := belowS_ok h.2.1 30
  have h2 : (icA code).Ok := belowS_ok h1 30
  refine SC.of_W mixed Tryz.func107 (by kernel_rfl) rfl Tryz.results107 _ Tryz.ntmps107 (by simp) ?_
  simp -implicitDefEqProofs only [go_sem]
  refine callX [] (spec_l1New code hl) (by simp -implicitDefEqProofs only [go_sem]) ?_
  simp -implicitDefEqProofs only [go_sem]
  refine callXNB [1112] [] ((spec_l4Any (newCur code) (newCur_ok hl)).frozenX (by simp) cur_plainS) (by decide) (by simp -implicitDefEqProofs only [go_sem]) (by simp -implicitDefEqProofs only [go_sem]) ?_
  simp -implicitDefEqProofs only [go_sem]
  rw [show anyF (newCur code) = foX code from rfl]
  refine ⟨some [999999, 1112, 1032], by decide +kernel, ?_⟩
  simp -implicitDefEqProofs only [go_sem]
  refine callXNQ [1112] [] (by decide) (spec_l1Below (foX code).2 30 h.2.1) (by decide) (by simp -implicitDefEqProofs only [go_sem]) (by simp -implicitDefEqProofs only [go_sem]) ?_
  simp -implicitDefEqProofs only [go_sem, invOf]
  refine callXNQ [1112] [] (by decide) (spec_l1Below (belowS (foX code).2 30) 30 h1) (by decide) (by simp -implicitDefEqProofs only [go_sem]) (by simp -implicitDefEqProofs only [go_sem]) ?_
  simp -implicitDefEqProofs only [go_sem, invOf]
  rw [show belowS (belowS (foX code).2 30) 30 = icA code from rfl]
  refine callXNQ [1112] [] (by decide) (spec_l4Raw (icA code) h2) (by decide) (by simp -implicitDefEqProofs only [go_sem]) (by simp -implicitDefEqProofs only [go_sem]) ?_
  simp -implicitDefEqProofs only [go_sem, invOf]
  refine callXNQ [1112] [1288] (by decide) (spec_l1Int (rawC (icA code)) [belowV (foX code).2 30, belowV (belowS (foX code).2 30) 30, 0, rawV (icA code)] (rawC_ok h2) (by simp) (by simp)) (by decide) (by simp -implicitDefEqProofs only [go_sem]) (by simp -implicitDefEqProofs only [go_sem]) ?_
  simp -implicitDefEqProofs only [go_sem]
  rfl
noncomputable def csF (code : List Int) : Int := belowV (newCur code) 6 - 1
theorem spec_DrawCanSee (code : List Int) (hl : code.length ≤ 1099511627776) : SC Tryz.prog 46 [.at (.im 1 (code.map byteRow))] [] (.tp [.ag (foX code).1.ats, .at (.v (.int .i64 (icC code))), .at (.v (.int .i64 (csF code)))]) [] := by
  have hn := newCur_ok hl
  have hb := belowV_bnd (newCur code) 6
  have hb2 := hb.2.1 (by omega)
  refine SC.of_W mixed Tryz.func46 (by kernel_rfl) rfl Tryz.results46 _ Tryz.ntmps46 (by simp) ?_
  simp -implicitDefEqProofs only [go_sem]
  refine callX [] (spec_DrawIsCell code hl) (by simp -implicitDefEqProofs only [go_sem]) ?_
  simp -implicitDefEqProofs only [go_sem]
  refine callX [] (spec_l1New code hl) (by simp -implicitDefEqProofs only [go_sem]) ?_
  simp -implicitDefEqProofs only [go_sem]
  refine ⟨some [999999, 1224, 1032], by decide +kernel, ?_⟩
  simp -implicitDefEqProofs only [go_sem]
  refine callXNQ [1224] [] (by decide) (spec_l1Below (newCur code) 6 hn) (by decide) (by simp -implicitDefEqProofs only [go_sem]) (by simp -implicitDefEqProofs only [go_sem]) ?_
  simp -implicitDefEqProofs only [go_sem]
  rw [wrap64 (by omega) (by omega)]
  rfl
noncomputable def kpL (code : List Int) : List Bool := (any6 (newCur code)).1.2
theorem spec_DrawKeeps (code : List Int) (hl : code.length ≤ 1099511627776) : SC Tryz.prog 159 [.at (.im 1 (code.map byteRow))] [] (.tp [.ag (any6 (newCur code)).1.1.ats, .at (.im 1 ((kpL code).map boolRow))]) [] := by
  refine SC.of_W mixed Tryz.func159 (by kernel_rfl) rfl Tryz.results159 _ Tryz.ntmps159 (by simp) ?_
  simp -implicitDefEqProofs only [go_sem]
  refine callX [] (spec_l1New code hl) (by simp -implicitDefEqProofs only [go_sem]) ?_
  simp -implicitDefEqProofs only [go_sem]
  refine callXNB [1096] [] ((spec_l6Any (newCur code) (newCur_ok hl)).frozenX (by simp) cur_plainS) (by decide) (by simp -implicitDefEqProofs only [go_sem]) (by simp -implicitDefEqProofs only [go_sem]) ?_
  simp -implicitDefEqProofs only [go_sem]
  rfl
theorem spec_DrawCountStorms (code : List Int) (hl : code.length ≤ 1099511627776) : SC Tryz.prog 110 [.at (.im 1 (code.map byteRow))] [] (.at (.im 1 ((kpL code).map boolRow))) [] := by
  refine SC.of_W mixed Tryz.func110 (by kernel_rfl) rfl Tryz.results110 _ Tryz.ntmps110 (by simp) ?_
  simp -implicitDefEqProofs only [go_sem]
  refine callX [] (spec_DrawKeeps code hl) (by simp -implicitDefEqProofs only [go_sem]) ?_
  simp -implicitDefEqProofs only [go_sem]
theorem spec_DrawStormShare (code : List Int) (hl : code.length ≤ 1099511627776) : SC Tryz.prog 51 [.at (.im 1 (code.map byteRow))] [] (.at (.im 1 ((kpL code).map boolRow))) [] := by
  refine SC.of_W mixed Tryz.func51 (by kernel_rfl) rfl Tryz.results51 _ Tryz.ntmps51 (by simp) ?_
  simp -implicitDefEqProofs only [go_sem]
  refine callX [] (spec_DrawCountStorms code hl) (by simp -implicitDefEqProofs only [go_sem]) ?_
  simp -implicitDefEqProofs only [go_sem]
theorem spec_DrawIsLand (code : List Int) (hl : code.length ≤ 1099511627776) : SC Tryz.prog 113 [.at (.im 1 (code.map byteRow))] [] (.ag (foX code).1.ats) [] := by
  refine SC.of_W mixed Tryz.func113 (by kernel_rfl) rfl Tryz.results113 _ Tryz.ntmps113 (by simp) ?_
  simp -implicitDefEqProofs only [go_sem]
  refine callX [] (spec_l1New code hl) (by simp -implicitDefEqProofs only [go_sem]) ?_
  simp -implicitDefEqProofs only [go_sem]
  refine callXNB [1080] [] ((spec_l4Any (newCur code) (newCur_ok hl)).frozenX (by simp) cur_plainS) (by decide) (by simp -implicitDefEqProofs only [go_sem]) (by simp -implicitDefEqProofs only [go_sem]) ?_
  simp -implicitDefEqProofs only [go_sem]
  exact ⟨rfl, rfl, rfl⟩
theorem spec_DrawOpenShare (code : List Int) (hl : code.length ≤ 1099511627776) : SC Tryz.prog 53 [.at (.im 1 (code.map byteRow))] [] (.ag (foX code).1.ats) [] := by
  refine SC.of_W mixed Tryz.func53 (by kernel_rfl) rfl Tryz.results53 _ Tryz.ntmps53 (by simp) ?_
  simp -implicitDefEqProofs only [go_sem]
  refine callX [] (spec_DrawIsLand code hl) (by simp -implicitDefEqProofs only [go_sem]) ?_
  simp -implicitDefEqProofs only [go_sem]
end Go.Abs

namespace Go.Abs
open Go.RowKit Go.Proofs
set_option linter.unusedVariables false
set_option linter.unusedSimpArgs false
set_option maxRecDepth 100000

def walkP (x : DLand) (l : List DPage) (i : Nat) (p : DPage) : Prop :=
  x.Open p.cell ∧ (0 < i → 0 ≤ daysZ x (prevP l i).cell p.cell ∧ daysZ x (prevP l i).cell p.cell ≤ IntKind.i64.wrap (p.day - (prevP l i).day))
def TraceL (x : DLand) (l : List DPage) : Prop := Each (walkP x l) l ∧ Journal l
noncomputable instance (x : DLand) (l : List DPage) : Decidable (TraceL x l) := Classical.propDecidable _
theorem impl_IsTrace (x : DLand) (l : List DPage) (hx : x.cells.length ≤ 1048576) (hl : l.length ≤ 1048576) (hw : ∀ p ∈ l, p.wf) : SC Tryz.prog 56 [.ag x.ats, .at (.im 4 (l.map DPage.row))] [] (.at (.v (.bool (decide (TraceL x l))))) [] := by
  refine SC.of_V mixed Tryz.func56 (by kernel_rfl) rfl Tryz.results56 _ Tryz.ntmps56 (by simp) ?_
  simp -implicitDefEqProofs only [go_sem]
  refine T.loopW mixed [1, 2, 8, 9, 10] (fun mm vs es => ∃ (i : Nat), vs = [.at (.im 4 (l.map DPage.row)), .at (.bx 100 0 0), .at (.im 4 (l.map DPage.row)), .at (.v (.int .i64 l.length)), .at (.v (.int .i64 i))] ∧ es = [.box 0 x.ats] ∧ mm + i = l.length ∧ EachTo (walkP x l) l i) l.length ?_ ?_
  · simp -implicitDefEqProofs only [go_sem]; exact ⟨0, by simp, by omega, each0⟩
  rintro n _ _ ⟨i, rfl, rfl, hn, hi⟩
  simp -implicitDefEqProofs only [go_sem]
  refine ⟨fun h => ?_, fun h => ?_⟩
  · skip
    refine ⟨by omega, fun p hp => ?_⟩
    have no : (walkP x l i p → False) → false = decide (TraceL x l) := fun hk => dec_f fun hj => eachNot hp hk hj.1
    have next : walkP x l i p → ∃ n', n' < n ∧ ∃ i1 : Nat, IntKind.i64.wrap (i + 1) = i1 ∧ n' + i1 = l.length ∧ EachTo (walkP x l) l i1 := fun hk =>
      ⟨n - 1, by omega, i + 1, by rw [wrap64 (by omega) (by omega)]; rfl, by omega, eachS hi hp hk⟩
    refine callX [] (impl_IsOpen x p.cell hx) (by simp -implicitDefEqProofs only [go_sem]) ?_
    simp -implicitDefEqProofs only [go_sem]
    refine ⟨fun k1 => no fun h => k1 h.1, fun k1 => ?_⟩
    refine ⟨fun h0 => ?_, fun h0 => next ⟨k1, fun h => absurd h (by omega)⟩⟩
    refine ⟨some [], by decide +kernel, ?_⟩
    simp -implicitDefEqProofs only [go_sem]
    rw [wrap64 (x := (i : Int) - 1) (by omega) (by omega), show ((i : Int) - 1).toNat = i - 1 by omega]
    refine ⟨by omega, fun q hq => ?_⟩
    have e := prevP_get hq (by omega)
    refine callXQ [] (impl_Days x q.cell p.cell hx) (by simp -implicitDefEqProofs only [go_sem]) ?_
    simp -implicitDefEqProofs only [go_sem]
    refine ⟨some [], by decide +kernel, ?_⟩
    simp -implicitDefEqProofs only [go_sem]
    rw [wrap64 (x := (i : Int) - 1) (by omega) (by omega), show ((i : Int) - 1).toNat = i - 1 by omega]
    refine ⟨fun k2 => ?_, fun k2 => no fun h => by have := h.2 (by omega); rw [e] at this; omega⟩
    refine ⟨by omega, fun q2 hq2 => ?_⟩
    have e3 : q2 = q := by rw [hq] at hq2; exact (Option.some.inj hq2).symm
    subst e3
    exact ⟨fun k3 => no fun h => by have := h.2 (by omega); rw [e] at this; omega, fun k3 => next ⟨k1, fun _ => by rw [e]; omega⟩⟩
  · skip
    refine callX [] (impl_IsJournal l hl hw) (by simp -implicitDefEqProofs only [go_sem]) ?_
    simp -implicitDefEqProofs only [go_sem]
    exact decide_eq_decide.2 ⟨fun h2 => ⟨eachEnd hi h, h2⟩, fun h2 => h2.2⟩
end Go.Abs

namespace Go.Abs
open Go.RowKit Go.Proofs
set_option linter.unusedVariables false
set_option linter.unusedSimpArgs false
set_option maxRecDepth 100000

def DayInv (t : DTrek) : Prop := trekP t ∧ TraceL t.land t.journal ∧ (t.journal.length : Int) = t.day ∧ (0 < t.journal.length → (prevP t.journal t.journal.length).cell = t.party.at_ ∧ (prevP t.journal t.journal.length).day = t.day)
theorem days_self {x : DLand} {a : Int} (h : x.Open a) : daysZ x a a = 0 := by rw [daysZ, if_pos ⟨h, h⟩, steps_0 h]
theorem days_near {x : DLand} {a c : Int} (h : x.Open a) (hc : c ∈ x.near a) : 0 ≤ daysZ x a c ∧ daysZ x a c ≤ 1 := by
  have ho := DLand.near_open h.1 hc
  have h0 := steps_0 h
  have := steps_near h h (by omega) hc
  rw [daysZ, if_pos ⟨h, ho⟩]
  omega
theorem inv_day {t : DTrek} {p : DParty} {l : List DDepot} (h : DayInv t) (hd : t.day < 100) (hp : trekP (dayT t p l)) (hm : 0 ≤ daysZ t.land t.party.at_ p.at_ ∧ daysZ t.land t.party.at_ p.at_ ≤ 1) : DayInv (dayT t p l) := by
  obtain ⟨ht, htr, hlen, hlast⟩ := h
  have hw := writeP_of ht hp
  have hd0 := ht.2.2.2.2.1
  have ed : IntKind.i64.wrap (t.day + 1) = t.day + 1 := wrap64 (by omega) (by omega)
  have epg : pagesOf t = t.journal := if_neg (by omega)
  rw [ed, epg] at hw
  have ej : (dayT t p l).journal = t.journal ++ [mkPage t.journal (t.day + 1) p.at_ p.food] := by
    show writeL (pagesOf t) (IntKind.i64.wrap (t.day + 1)) _ _ = _
    rw [ed, epg, writeL, if_pos hw]
  have elast : prevP (t.journal ++ [mkPage t.journal (t.day + 1) p.at_ p.food]) (t.journal.length + 1) = mkPage t.journal (t.day + 1) p.at_ p.food := prevP_S (by simp)
  have hop : t.land.Open p.at_ := hp.1.1.1.2.2.1
  refine ⟨hp, ⟨?_, by rw [ej]; exact hw⟩, ?_, fun _ => ?_⟩
  · show Each (walkP t.land (dayT t p l).journal) (dayT t p l).journal
    rw [ej]
    intro i q hi
    by_cases hlt : i < t.journal.length
    · rw [List.getElem?_append_left hlt] at hi
      have := htr.1 i q hi
      unfold walkP at this ⊢
      rw [prevP_app (by omega)]; exact this
    · have hlt2 := (List.getElem?_eq_some_iff.1 hi).1
      have hie : i = t.journal.length := by simp at hlt2; omega
      subst hie
      rw [List.getElem?_append_right (Nat.le_refl _), Nat.sub_self] at hi
      simp only [List.getElem?_cons_zero, Option.some.injEq] at hi
      subst hi
      unfold walkP
      rw [prevP_app (Nat.le_refl _)]
      refine ⟨hop, fun h0 => ?_⟩
      have h1 := hlast h0
      rw [h1.1, h1.2]
      show 0 ≤ daysZ t.land t.party.at_ p.at_ ∧ daysZ t.land t.party.at_ p.at_ ≤ IntKind.i64.wrap (t.day + 1 - t.day)
      rw [wrap64 (by omega) (by omega)]
      omega
  · rw [ej, List.length_append, List.length_singleton]
    show _ = IntKind.i64.wrap (t.day + 1)
    rw [ed]; omega
  · rw [ej, List.length_append, List.length_singleton, elast]
    exact ⟨rfl, ed.symm⟩
theorem inv_apply {t : DTrek} {e : DEvent} (h : DayInv t) (hd : t.day < 100) : DayInv (applyZ t e) := by
  have ho : t.land.Open t.party.at_ := h.1.1.1.1.2.2.1
  have hself : 0 ≤ daysZ t.land t.party.at_ t.party.at_ ∧ daysZ t.land t.party.at_ t.party.at_ ≤ 1 := by rw [days_self ho]; decide
  have hput : ∀ (p : DParty) (l : List DDepot) (Q : Prop), (Q → p.at_ = t.party.at_) → DayInv (putR t p l Q) := by
    intro p l Q hp
    unfold putR
    split
    · rename_i k
      refine ⟨k.2.2, h.2.1, h.2.2.1, fun h0 => ?_⟩
      have := h.2.2.2 h0
      exact ⟨this.1.trans (hp k.1).symm, this.2⟩
    · exact h
  have hday : ∀ (p : DParty) (l : List DDepot) (Q : Prop), (Q → 0 ≤ daysZ t.land t.party.at_ p.at_ ∧ daysZ t.land t.party.at_ p.at_ ≤ 1) → DayInv (dayR t p l Q) := by
    intro p l Q hp
    unfold dayR
    split
    · rename_i k; exact inv_day h hd k.2.2 (hp k.1)
    · exact h
  by_cases h1 : e.kind = 1
  · rw [(apply_1 h1).1, giveZ]
    split
    · rename_i k; exact ⟨k.2.2.2, h.2.1, h.2.2.1, h.2.2.2⟩
    · exact h
  by_cases h2 : e.kind = 2
  · rw [(apply_2 h2).1]
    refine hday _ _ _ fun k => ?_
    rw [goStepZ, if_pos k]
    show 0 ≤ daysZ t.land t.party.at_ (if e.storm = true then t.party.at_ else e.n) ∧ daysZ t.land t.party.at_ (if e.storm = true then t.party.at_ else e.n) ≤ 1
    split
    · exact hself
    · have hn := k.1.1.1
      rw [nearZ, if_pos ho.1] at hn
      exact days_near ho hn
  by_cases h3 : e.kind = 3
  · rw [(apply_3 h3).1]
    refine hday _ _ _ fun k => ?_
    rw [waitStepZ, if_pos k]
    exact hself
  by_cases h4 : e.kind = 4
  · rw [(apply_4 h4).1]
    refine hday _ _ _ fun k => ?_
    rw [retZ, if_pos k]
    show 0 ≤ daysZ t.land t.party.at_ (if e.storm = true then t.party.at_ else homeCell t.land t.base t.party) ∧ daysZ t.land t.party.at_ (if e.storm = true then t.party.at_ else homeCell t.land t.base t.party) ≤ 1
    split
    · exact hself
    · obtain ⟨w1, w2, w3, w4⟩ := way_cases k.1.1.2
      have hpos : dist (stepsZ t.land [t.base]) t.party.at_ ≠ 0 := fun h0 => k.2.1 (steps_zero w2 w1 h0)
      have hn := next_in w2 w1 (by omega)
      obtain ⟨j, hj⟩ : ∃ j : Nat, (dist (stepsZ t.land [t.base]) t.party.at_).toNat = j + 1 := ⟨(dist (stepsZ t.land [t.base]) t.party.at_).toNat - 1, by omega⟩
      have hc : homeCell t.land t.base t.party = nextZ t.land (stepsZ t.land [t.base]) t.party.at_ := by
        rw [homeCell, w4, hj, wayF, List.getD_cons_succ, wayF_head]
      rw [hc]
      exact days_near ho hn.1
  by_cases h5 : e.kind = 5
  · rw [(apply_5 h5).1]
    refine hput _ _ _ fun k => ?_
    unfold layStepZ; split <;> rfl
  by_cases h6 : e.kind = 6
  · rw [(apply_6 h6).1]
    refine hput _ _ _ fun k => ?_
    unfold takeStepZ; split <;> rfl
  · rw [(apply_0 h1 h2 h3 h4 h5 h6).1]; exact h
theorem inv_run : ∀ (l : List DEvent) (t : DTrek), DayInv t → t.day + l.length ≤ 100 → DayInv (runZ t l) := by
  intro l
  induction l with
  | nil => intro t h _; exact h
  | cons e l ih =>
    intro t h hd
    rw [List.length_cons] at hd
    have h1 := apply_day t e
    exact ih (applyZ t e) (inv_apply h (by omega)) (by omega)
end Go.Abs

namespace Go.Abs
open Go.RowKit Go.Proofs
set_option linter.unusedVariables false
set_option linter.unusedSimpArgs false
set_option maxRecDepth 100000

theorem DLand.apart_0 (x : DLand) (a b : Int) : 0 ≤ x.apart a b := by
  unfold DLand.apart; omega
theorem DLand.apartZ_comm (x : DLand) (a b : Int) : x.apartZ a b = x.apartZ b a := by
  unfold DLand.apartZ
  have e : x.apart a b = x.apart b a := by unfold DLand.apart; omega
  by_cases h : x.Cell a ∧ x.Cell b
  · rw [if_pos h, if_pos ⟨h.2, h.1⟩, e]
  · rw [if_neg h, if_neg (fun k => h ⟨k.2, k.1⟩)]
/-- A cell is seen from another. -/
def DLand.Sees (x : DLand) (a f b : Int) : Prop := 0 ≤ x.apartZ a b ∧ x.apartZ a b ≤ f
noncomputable instance (x : DLand) (a f b : Int) : Decidable (x.Sees a f b) := Classical.propDecidable _
theorem DLand.sees_cell {x : DLand} {a f b : Int} (h : x.Sees a f b) : x.Cell a := by
  have := h.1
  unfold DLand.apartZ at this
  split at this
  · rename_i k; exact k.1
  · omega
noncomputable def seeTo (x : DLand) (a f : Int) (c : Nat) : List Int := ((List.range c).filter fun (c : Nat) => decide (x.Sees a f c)).map fun (c : Nat) => (c : Int)
theorem seeTo_yes {x : DLand} {a f : Int} {c : Nat} (h : x.Sees a f c) : seeTo x a f (c + 1) = seeTo x a f c ++ [(c : Int)] := by
  simp [seeTo, List.range_succ, h]
theorem seeTo_no {x : DLand} {a f : Int} {c : Nat} (h : ¬ x.Sees a f c) : seeTo x a f (c + 1) = seeTo x a f c := by
  simp [seeTo, List.range_succ, h]
theorem seeTo_len {x : DLand} {a f : Int} {c : Nat} : (seeTo x a f c).length ≤ c := by
  have := List.length_filter_le (fun (c : Nat) => decide (x.Sees a f c)) (List.range c)
  simp [seeTo] at *; omega
theorem seeTo_none {x : DLand} {a f : Int} {c : Nat} (h : ¬ x.Cell a) : seeTo x a f c = [] := by
  simp [seeTo]; intro b _ k; exact h (DLand.sees_cell k)
noncomputable def seeZ (x : DLand) (a f : Int) : List Int := seeTo x a f x.cells.length
theorem impl_CanSee (x : DLand) (a f : Int) (hl : x.cells.length ≤ 1048576) : SC Tryz.prog 47 [.ag x.ats, .at (.v (.int .i64 a)), .at (.v (.int .i64 f))] [] (.at (.fr 1 ((seeZ x a f).map intRow))) [] := by
  refine SC.of_W mixed Tryz.func47 (by kernel_rfl) rfl Tryz.results47 _ Tryz.ntmps47 (by simp) ?_
  simp -implicitDefEqProofs only [go_sem]
  refine T.loopW mixed [1, 2, 3, 7, 13, 14] (fun mm vs es => ∃ (c : Nat), vs = [.at (.v (.int .i64 a)), .at (.v (.int .i64 f)), .at (.bx 100 0 0), .at (.ow 101 0 1 ((seeTo x a f c).length)), .at (.v (.int .i64 x.cells.length)), .at (.v (.int .i64 c))] ∧ es = [.box 0 x.ats, .arr 0 1 ((seeTo x a f c).map intRow)] ∧ mm + c = x.cells.length) x.cells.length ?_ ?_
  · simp -implicitDefEqProofs only [go_sem]; exact ⟨0, by simp [seeTo]⟩
  rintro n _ _ ⟨c, rfl, rfl, hn⟩
  simp -implicitDefEqProofs only [go_sem]
  refine ⟨fun h => ?_, fun h => ?_⟩
  · refine callX [] (impl_Apart x a c hl) (by simp -implicitDefEqProofs only [go_sem]) ?_
    simp -implicitDefEqProofs only [go_sem]
    rw [wrap64 (by omega) (by omega)]
    have hv := seeTo_len (x := x) (a := a) (f := f) (c := c)
    have no : ¬ x.Sees a f c → seeTo x a f (c + 1) = seeTo x a f c := seeTo_no
    refine ⟨fun k1 => ⟨fun k2 => ⟨room8 (by omega), n - 1, by omega, c + 1, ⟨by rw [seeTo_yes ⟨by omega, k2⟩]; simp, rfl⟩, by rw [seeTo_yes ⟨by omega, k2⟩]; simp [intRow], by omega⟩, fun k2 => ⟨n - 1, by omega, c + 1, ⟨by rw [seeTo_no (fun h => k2 h.2)], rfl⟩, by rw [seeTo_no (fun h => k2 h.2)], by omega⟩⟩, fun k1 => ⟨n - 1, by omega, c + 1, ⟨by rw [seeTo_no (fun h => k1 (by have := h.1; omega))], rfl⟩, by rw [seeTo_no (fun h => k1 (by have := h.1; omega))], by omega⟩⟩
  · have : c = x.cells.length := by omega
    subst this
    exact ⟨rfl, rfl⟩
noncomputable def nearDaysZ (x : DLand) (l : List DPage) (c f : Int) : Int := sumL (fun p => if x.Sees c f p.cell then 1 else 0) l
theorem impl_DaysNear (x : DLand) (l : List DPage) (c f : Int) (hx : x.cells.length ≤ 1048576) (hl : l.length ≤ 1048576) : SC Tryz.prog 59 [.ag x.ats, .at (.im 4 (l.map DPage.row)), .at (.v (.int .i64 c)), .at (.v (.int .i64 f))] [] (.at (.v (.int .i64 (nearDaysZ x l c f)))) [] := by
  refine SC.of_V mixed Tryz.func59 (by kernel_rfl) rfl Tryz.results59 _ Tryz.ntmps59 (by simp) ?_
  simp -implicitDefEqProofs only [go_sem]
  refine T.loopW mixed [2, 3, 4, 9, 13, 14, 15] (fun mm vs es => ∃ (i : Nat), vs = [.at (.v (.int .i64 c)), .at (.v (.int .i64 f)), .at (.bx 100 0 0), .at (.v (.int .i64 (sumT (fun p => if x.Sees c f p.cell then 1 else 0) l i))), .at (.im 4 (l.map DPage.row)), .at (.v (.int .i64 l.length)), .at (.v (.int .i64 i))] ∧ es = [.box 0 x.ats] ∧ mm + i = l.length) l.length ?_ ?_
  · simp -implicitDefEqProofs only [go_sem]; exact ⟨0, ⟨sum0.symm, rfl⟩, by omega⟩
  rintro n _ _ ⟨i, rfl, rfl, hn⟩
  simp -implicitDefEqProofs only [go_sem]
  have hb := sum_bound (f := fun p : DPage => if x.Sees c f p.cell then 1 else 0) (l := l) (B := 1) (i := i) (fun c _ => by split <;> omega) (by omega)
  refine ⟨fun h => ⟨by omega, fun p hp => ?_⟩, fun h => sumEnd h⟩
  refine callX [] (impl_Apart x p.cell c hx) (by simp -implicitDefEqProofs only [go_sem]) ?_
  simp -implicitDefEqProofs only [go_sem]
  have e := x.apartZ_comm p.cell c
  rw [wrap64 (by omega) (by omega)]
  have no : ¬ x.Sees c f p.cell → sumT (fun p : DPage => if x.Sees c f p.cell then 1 else 0) l i = sumT (fun p : DPage => if x.Sees c f p.cell then 1 else 0) l (i + 1) := fun h => by rw [sumS hp, if_neg h]; simp
  refine ⟨fun k1 => ⟨fun k2 => ?_, fun k2 => ?_⟩, fun k1 => ?_⟩
  · rw [wrap64 (by omega) (by omega)]
    exact ⟨n - 1, by omega, i + 1, ⟨by rw [sumS hp, if_pos ⟨by omega, by omega⟩], rfl⟩, by omega⟩
  · exact ⟨n - 1, by omega, i + 1, ⟨no (fun h => by have := h.2; omega), by rw [wrap64 (by omega) (by omega)]; rfl⟩, by omega⟩
  · exact ⟨n - 1, by omega, i + 1, ⟨no (fun h => by have := h.1; omega), by rw [wrap64 (by omega) (by omega)]; rfl⟩, by omega⟩
end Go.Abs

namespace Go.Abs
open Go.RowKit Go.Proofs
set_option linter.unusedVariables false
set_option linter.unusedSimpArgs false
set_option maxRecDepth 100000

noncomputable def farTo (x : DLand) (b : Int) (l : List DPage) : Int := l.foldl (fun n p => max n (daysZ x b p.cell)) (-1)
theorem farTo_S {x : DLand} {b : Int} {l : List DPage} {i : Nat} {p : DPage} (h : l[i]? = some p) : farTo x b (l.take (i + 1)) = max (farTo x b (l.take i)) (daysZ x b p.cell) := by
  simp only [farTo, List.take_add_one, h, Option.toList_some, List.foldl_append, List.foldl_cons, List.foldl_nil]
theorem impl_FarthestOut (x : DLand) (b : Int) (l : List DPage) (hx : x.cells.length ≤ 1048576) (hl : l.length ≤ 1048576) : SC Tryz.prog 44 [.ag x.ats, .at (.v (.int .i64 b)), .at (.im 4 (l.map DPage.row))] [] (.at (.v (.int .i64 (farTo x b l)))) [] := by
  refine SC.of_V mixed Tryz.func44 (by kernel_rfl) rfl Tryz.results44 _ Tryz.ntmps44 (by simp) ?_
  simp -implicitDefEqProofs only [go_sem]
  refine T.loopW mixed [1, 3, 7, 10, 11, 12] (fun mm vs es => ∃ (i : Nat), vs = [.at (.v (.int .i64 b)), .at (.bx 100 0 0), .at (.v (.int .i64 (farTo x b (l.take i)))), .at (.im 4 (l.map DPage.row)), .at (.v (.int .i64 l.length)), .at (.v (.int .i64 i))] ∧ es = [.box 0 x.ats] ∧ mm + i = l.length) l.length ?_ ?_
  · simp -implicitDefEqProofs only [go_sem]; exact ⟨0, ⟨rfl, rfl⟩, by omega⟩
  rintro n _ _ ⟨i, rfl, rfl, hn⟩
  simp -implicitDefEqProofs only [go_sem]
  refine ⟨fun h => ?_, fun h => by rw [List.take_of_length_le (by omega)]⟩
  refine ⟨by omega, fun p hp => ?_⟩
  refine callX [] (impl_Days x b p.cell hx) (by simp -implicitDefEqProofs only [go_sem]) ?_
  simp -implicitDefEqProofs only [go_sem]
  rw [wrap64 (by omega) (by omega)]
  exact ⟨n - 1, by omega, i + 1, ⟨(farTo_S hp).symm, rfl⟩, by omega⟩
end Go.Abs

namespace Go.Abs
open Go.RowKit Go.Proofs
set_option linter.unusedVariables false
set_option linter.unusedSimpArgs false
set_option maxRecDepth 100000

theorem asc_range {p : Nat → Bool} {c : Nat} : (((List.range c).filter p).map fun (c : Nat) => (c : Int)).Pairwise (· < ·) := by
  rw [List.pairwise_map]
  refine List.Pairwise.imp (R := (· < ·)) (fun h => by omega) ?_
  exact (List.pairwise_lt_range).filter _
theorem visit_asc {l : List DPage} {c : Nat} : (visitTo l c).Pairwise (· < ·) := asc_range
theorem see_asc {x : DLand} {a f : Int} : (seeZ x a f).Pairwise (· < ·) := asc_range
theorem mem_range {p : Nat → Prop} [DecidablePred p] {c : Nat} {k : Int} : k ∈ ((List.range c).filter fun c => decide (p c)).map (fun (c : Nat) => (c : Int)) ↔ (0 ≤ k ∧ k < c) ∧ p k.toNat := by
  rw [List.mem_map]
  constructor
  · rintro ⟨n, hn, rfl⟩
    obtain ⟨h1, h2⟩ := List.mem_filter.1 hn
    have := List.mem_range.1 h1
    exact ⟨by omega, by rw [Int.toNat_natCast]; exact of_decide_eq_true h2⟩
  · rintro ⟨⟨h1, h2⟩, h3⟩
    exact ⟨k.toNat, List.mem_filter.2 ⟨List.mem_range.2 (by omega), decide_eq_true h3⟩, by omega⟩
theorem visit_mem {l : List DPage} {p : DPage} (hp : p ∈ l) (h : 0 ≤ p.cell ∧ p.cell < 64) : p.cell ∈ visitTo l 64 := by
  unfold visitTo
  refine mem_range.2 ⟨by omega, p, hp, by omega⟩
theorem see_self {x : DLand} {a f : Int} : (x.Cell a ∧ 0 ≤ f) ↔ a ∈ seeZ x a f := by
  have h0 : x.Cell a → x.apartZ a a = 0 := fun h => by
    rw [DLand.apartZ, if_pos ⟨h, h⟩, DLand.apart]; omega
  unfold seeZ seeTo
  rw [mem_range]
  constructor
  · rintro ⟨h1, h2⟩
    have e : ((a.toNat : Nat) : Int) = a := by have := h1.2; omega
    refine ⟨h1.2, ?_⟩
    unfold DLand.Sees
    rw [e, h0 h1]; omega
  · rintro ⟨h1, h2⟩
    have e : ((a.toNat : Nat) : Int) = a := by omega
    unfold DLand.Sees at h2
    rw [e] at h2
    have hc : x.Cell a := by
      refine Decidable.byContradiction fun hn => ?_
      rw [DLand.apartZ, if_neg (fun h => hn h.1)] at h2
      omega
    rw [h0 hc] at h2
    exact ⟨hc, by omega⟩
theorem far_mono {x : DLand} {b : Int} : ∀ (l : List DPage) (n : Int), n ≤ l.foldl (fun n p => max n (daysZ x b p.cell)) n ∧ ∀ p ∈ l, daysZ x b p.cell ≤ l.foldl (fun n p => max n (daysZ x b p.cell)) n := by
  intro l
  induction l with
  | nil => intro n; exact ⟨Int.le_refl _, fun p hp => by cases hp⟩
  | cons q l ih =>
    intro n
    have h := ih (max n (daysZ x b q.cell))
    rw [List.foldl_cons]
    refine ⟨by omega, fun p hp => ?_⟩
    rcases List.mem_cons.1 hp with rfl | hp
    · omega
    · exact h.2 p hp
theorem far_le {x : DLand} {b : Int} {l : List DPage} {p : DPage} (hp : p ∈ l) : daysZ x b p.cell ≤ farTo x b l := (far_mono l (-1)).2 p hp
theorem low_mono : ∀ (l : List DPage) (n : Int), l.foldl (fun n p => min n p.food) n ≤ n ∧ ∀ p ∈ l, l.foldl (fun n p => min n p.food) n ≤ p.food := by
  intro l
  induction l with
  | nil => intro n; exact ⟨Int.le_refl _, fun p hp => by cases hp⟩
  | cons q l ih =>
    intro n
    have h := ih (min n q.food)
    rw [List.foldl_cons]
    refine ⟨by omega, fun p hp => ?_⟩
    rcases List.mem_cons.1 hp with rfl | hp
    · omega
    · exact h.2 p hp
theorem low_le {l : List DPage} {p : DPage} (hp : p ∈ l) (h : 0 ≤ lowestZ l) : lowestZ l ≤ p.food := by
  unfold lowestZ at h ⊢
  split at h
  · omega
  · rename_i hn
    rw [if_neg hn]
    exact (low_mono l _).2 p hp
theorem near_bnd {x : DLand} {l : List DPage} {c f : Int} : 0 ≤ nearDaysZ x l c f ∧ nearDaysZ x l c f ≤ l.length := by
  have := sum_all (f := fun p : DPage => if x.Sees c f p.cell then (1 : Int) else 0) (l := l) (B := 1) (fun p _ => by split <;> omega)
  unfold nearDaysZ; omega
end Go.Abs

namespace Go.Abs
open Go.RowKit Go.Proofs
set_option linter.unusedVariables false
set_option linter.unusedSimpArgs false
set_option maxRecDepth 100000
set_option maxHeartbeats 4000000

def onF (d : Int) (n : Int) (p : DPage) : Int := if p.day ≤ d then p.cell else n
def onT (d : Int) (l : List DPage) (i : Nat) : Int := (l.take i).foldl (onF d) (-1)
noncomputable def cellOnZ (l : List DPage) (d : Int) : Int := if Journal l then l.foldl (onF d) (-1) else -1
theorem onT_S {d : Int} {l : List DPage} {i : Nat} {p : DPage} (h : l[i]? = some p) : onT d l (i + 1) = onF d (onT d l i) p := by
  rw [onT, List.take_add_one, h, Option.toList_some, List.foldl_append]; rfl
theorem impl_CellOn (l : List DPage) (d : Int) (hl : l.length ≤ 1048576) (hw : ∀ p ∈ l, p.wf) : SC Tryz.prog 65 [.at (.im 4 (l.map DPage.row)), .at (.v (.int .i64 d))] [] (.at (.v (.int .i64 (cellOnZ l d)))) [] := by
  refine SC.of_V mixed Tryz.func65 (by kernel_rfl) rfl Tryz.results65 _ Tryz.ntmps65 (by simp) ?_
  simp -implicitDefEqProofs only [go_sem]
  refine T.loopW mixed [0, 1, 5, 8, 9, 10] (fun mm vs es => ∃ (i : Nat), vs = [.at (.im 4 (l.map DPage.row)), .at (.v (.int .i64 d)), .at (.v (.int .i64 (if Journal l then onT d l i else -1))), .at (.im 4 (l.map DPage.row)), .at (.v (.int .i64 l.length)), .at (.v (.int .i64 i))] ∧ es = [] ∧ mm + i = l.length) l.length ?_ ?_
  · simp -implicitDefEqProofs only [go_sem]; exact ⟨0, by unfold onT; simp, by omega⟩
  rintro q _ _ ⟨i, rfl, rfl, hn⟩
  simp -implicitDefEqProofs only [go_sem]
  refine ⟨fun h => ⟨by omega, fun p hp => ?_⟩, fun h => ?_⟩
  · refine callX [] (impl_IsJournal l hl hw) (by simp -implicitDefEqProofs only [go_sem]) ?_
    simp -implicitDefEqProofs only [go_sem]
    refine ⟨fun hj => ⟨fun k => ?_, fun k => ?_⟩, fun hj => ?_⟩
    · rw [wrap64 (by omega) (by omega)]
      exact ⟨q - 1, by omega, i + 1, ⟨by rw [if_pos hj, onT_S hp, onF, if_pos k], rfl⟩, by omega⟩
    · rw [wrap64 (by omega) (by omega)]
      exact ⟨q - 1, by omega, i + 1, ⟨by rw [if_pos hj, if_pos hj, onT_S hp, onF, if_neg k], rfl⟩, by omega⟩
    · rw [wrap64 (by omega) (by omega)]
      exact ⟨q - 1, by omega, i + 1, ⟨by rw [if_neg hj, if_neg hj], rfl⟩, by omega⟩
  · unfold cellOnZ
    split
    · rw [onT, List.take_of_length_le (by omega)]
    · rfl
/-! ### The first day at a cell -/
theorem day_step {l : List DPage} (h : Journal l) {i : Nat} {p q : DPage} (hp : l[i]? = some p) (hq : l[i + 1]? = some q) : p.day + 1 ≤ q.day := by
  have := (h.1 (i + 1) q hq).1.1
  rw [prevP_S hp] at this
  exact this
theorem day_asc {l : List DPage} (h : Journal l) : ∀ (k i : Nat) (p q : DPage), l[i]? = some p → l[i + k + 1]? = some q → p.day < q.day := by
  intro k
  induction k with
  | zero => intro i p q hp hq; have := day_step h hp hq; omega
  | succ k ih =>
    intro i p q hp hq
    have hlt : i + k + 1 < l.length := by have := (List.getElem?_eq_some_iff.1 hq).1; omega
    have h1 := ih i p l[i + k + 1] hp (List.getElem?_eq_getElem hlt)
    have h2 := day_step h (List.getElem?_eq_getElem hlt) (by rw [← hq]; congr 1)
    omega
theorem day_pair {l : List DPage} (h : Journal l) : l.Pairwise fun p q => p.day < q.day := by
  rw [List.pairwise_iff_getElem]
  intro i j hi hj hij
  exact day_asc h (j - i - 1) i l[i] l[j] (List.getElem?_eq_getElem hi) (by rw [show i + (j - i - 1) + 1 = j by omega]; exact List.getElem?_eq_getElem hj)
theorem on_late {d : Int} : ∀ (l : List DPage) (n : Int), (∀ p ∈ l, d < p.day) → l.foldl (onF d) n = n := by
  intro l
  induction l with
  | nil => intro n _; rfl
  | cons p l ih =>
    intro n h
    rw [List.foldl_cons, onF, if_neg (by have := h p (by simp); omega)]
    exact ih n fun q hq => h q (by simp [hq])
theorem first_on {c : Int} : ∀ (l : List DPage) (n : Int), l.Pairwise (fun p q => p.day < q.day) → (∀ p ∈ l, 0 ≤ p.day) → 0 ≤ firstTo c l → l.foldl (onF (firstTo c l)) n = c := by
  intro l
  induction l with
  | nil => intro n _ _ h; simp [firstTo] at h
  | cons p l ih =>
    intro n hp h0 h
    obtain ⟨h1, h2⟩ := List.pairwise_cons.1 hp
    rw [List.foldl_cons]
    by_cases e : p.cell = c
    · rw [firstTo, if_pos e, onF, if_pos (Int.le_refl _), on_late l _ h1, e]
    · rw [firstTo, if_neg e] at h ⊢
      exact ih _ h2 (fun q hq => h0 q (by simp [hq])) h
theorem first_cell {l : List DPage} {c : Int} (h : ¬ firstZ l c < 0) : cellOnZ l (firstZ l c) = c := by
  unfold firstZ at h ⊢
  by_cases hj : Journal l
  · rw [if_pos hj] at h ⊢
    rw [cellOnZ, if_pos hj]
    refine first_on l (-1) (day_pair hj) (fun p hp => ?_) (by omega)
    obtain ⟨i, hi⟩ := List.getElem?_of_mem hp
    have h1 := (hj.1 i p hi).1.1
    have h2 := prev_day (i := l.length) (fun j q _ hq => hj.1 j q hq) i (by have := (List.getElem?_eq_some_iff.1 hi).1; omega)
    omega
  · rw [if_neg hj] at h; omega
/-! ### Names of events -/
def nameZ (k : Int) : ByteArray := if k = 1 then ⟨#[103, 105, 118, 101]⟩ else if k = 2 then ⟨#[103, 111]⟩ else if k = 3 then ⟨#[119, 97, 105, 116]⟩ else if k = 4 then ⟨#[104, 111, 109, 101]⟩ else if k = 5 then ⟨#[108, 97, 121]⟩ else ⟨#[116, 97, 107, 101]⟩
theorem nameZ_ne {k : Int} : ((nameZ k).toList == (⟨#[]⟩ : ByteArray).toList) = false := by
  unfold nameZ
  split
  · decide +kernel
  split
  · decide +kernel
  split
  · decide +kernel
  split
  · decide +kernel
  split
  · decide +kernel
  · decide +kernel
theorem impl_EventName (k : Int) (h : 1 ≤ k ∧ k ≤ 6) : SC Tryz.prog 33 [.at (.v (.int .i64 k))] [] (.at (.v (.string (nameZ k)))) [] := by
  refine SC.of_V mixed Tryz.func33 (by kernel_rfl) rfl Tryz.results33 _ Tryz.ntmps33 (by simp) ?_
  simp -implicitDefEqProofs only [go_sem]
  refine callX [] (impl_InRange k 1 6) (by simp -implicitDefEqProofs only [go_sem]) ?_
  simp -implicitDefEqProofs only [go_sem]
  refine ⟨fun h2 => absurd h h2, fun _ => ?_⟩
  rw [wrap64 (by omega) (by omega)]
  refine ⟨by omega, by omega, fun r hr => ?_⟩
  have hk : k = 1 ∨ k = 2 ∨ k = 3 ∨ k = 4 ∨ k = 5 ∨ k = 6 := by omega
  rcases hk with rfl | rfl | rfl | rfl | rfl | rfl
  all_goals
    rw [← Option.some.inj hr]
    rfl
/-! ### A byte of the input -/
theorem laws_at (code : List Int) (i : Nat) (h : code.length ≤ 1048576) (hi : i ≤ 1048576) : SC Tryz.prog 26 [.at (.im 1 (code.map byteRow)), .at (.v (.int .i64 (i : Nat)))] [] (.at (.v (.int .i64 (if i < code.length then IntKind.i64.wrap (code.getD i 0) else ((i : Int) * 31 + (code.length : Int) * 7).tmod 256)))) [] := by
  refine SC.of_V mixed Tryz.func26 (by kernel_rfl) rfl Tryz.results26 _ Tryz.ntmps26 (by simp) ?_
  simp -implicitDefEqProofs only [go_sem]
  refine ⟨fun h1 => ?_, fun h1 => ?_⟩
  · rw [if_pos (by omega)]
    refine ⟨by omega, fun c hc => ?_⟩
    rw [List.getD_eq_getElem?_getD, hc]; rfl
  · rw [if_neg (by omega), wrap64 (x := (i : Int) * 31) (by omega) (by omega), wrap64 (x := (code.length : Int) * 7) (by omega) (by omega), wrap64 (by omega) (by omega)]
end Go.Abs

namespace Go.Abs
open Go.RowKit Go.Proofs
set_option linter.unusedVariables false
set_option linter.unusedSimpArgs false
set_option maxRecDepth 100000

/-- What is left to count from a page on. -/
def still : List DPage → Int
  | [] => 0
  | [_] => 0
  | p :: q :: l => (if p.cell = q.cell then 1 else 0) + still (q :: l)

theorem still_bound (l : List DPage) : 0 ≤ still l ∧ still l ≤ l.length := by
  induction l with
  | nil => simp [still]
  | cons p l ih => cases l with
    | nil => simp [still]
    | cons q l => simp only [still, List.length_cons] at ih ⊢; split <;> omega

theorem still_short {l : List DPage} (h : l.length ≤ 1) : still l = 0 := by
  rcases l with _ | ⟨p, _ | ⟨q, l⟩⟩
  · rfl
  · rfl
  · simp at h

theorem still_step {l : List DPage} {i : Nat} {p q : DPage} (hp : l[i]? = some p) (hq : l[i - 1]? = some q) (hi : 1 ≤ i) : still (l.drop (i - 1)) = (if q.cell = p.cell then 1 else 0) + still (l.drop i) := by
  rw [drop_get hq, show i - 1 + 1 = i by omega, drop_get hp]; rfl

theorem impl_StillDays (l : List DPage) (hl : l.length ≤ 1048576) : SC Tryz.prog 64 [.at (.im 4 (l.map DPage.row))] [] (.at (.v (.int .i64 (still l)))) [] := by
  refine SC.of_V mixed Tryz.func64 (by kernel_rfl) rfl Tryz.results64 _ Tryz.ntmps64 (by simp) ?_
  simp -implicitDefEqProofs only [go_sem]
  refine T.loopW mixed [0, 3, 4] (fun mm vs es => ∃ (i : Nat) (k : Int), vs = [.at (.im 4 (l.map DPage.row)), .at (.v (.int .i64 k)), .at (.v (.int .i64 i))] ∧ es = [] ∧ mm + i = l.length + 1 ∧ 1 ≤ i ∧ 0 ≤ k ∧ k ≤ i ∧ k + still (l.drop (i - 1)) = still l) l.length ?_ ?_
  · simp -implicitDefEqProofs only [go_sem]
    exact ⟨1, 0, by simp⟩
  rintro n _ _ ⟨i, k, rfl, rfl, hn, hi, hk0, hki, hk⟩
  simp -implicitDefEqProofs only [go_sem]
  refine ⟨fun h => ?_, fun h => ?_⟩
  · refine ⟨some [], by decide +kernel, ?_⟩
    simp -implicitDefEqProofs only [go_sem]
    rw [wrap64 (by omega) (by omega), show ((i : Int) - 1).toNat = i - 1 by omega]
    refine ⟨by omega, fun p hp => ⟨by omega, fun q hq => ?_⟩⟩
    rw [still_step hp hq hi] at hk
    refine ⟨fun hc => ?_, fun hc => ?_⟩
    · rw [if_pos hc.symm] at hk
      rw [wrap64 (by omega) (by omega), wrap64 (by omega) (by omega)]
      exact ⟨n - 1, by omega, i + 1, k + 1, ⟨rfl, rfl⟩, by omega, by omega, by omega, by omega, by rw [Nat.add_sub_cancel]; omega⟩
    · rw [if_neg (fun h => hc h.symm)] at hk
      rw [wrap64 (by omega) (by omega)]
      exact ⟨n - 1, by omega, i + 1, k, ⟨rfl, rfl⟩, by omega, by omega, by omega, by omega, by rw [Nat.add_sub_cancel]; omega⟩
  · rw [still_short (by rw [List.length_drop]; omega)] at hk
    omega
end Go.Abs

namespace Go.Abs
open Go.RowKit Go.Proofs
set_option linter.unusedVariables false
set_option linter.unusedSimpArgs false
set_option maxRecDepth 100000
set_option maxHeartbeats 4000000

theorem laws_big (code : List Int) (h : code.length ≤ maxLen) : SC Tryz.prog 9 [.at (.im 1 (code.map byteRow))] [] (.at (.v (.bool (decide ((1048576 : Int) < code.length))))) [] := by
  refine SC.of_V mixed Tryz.func9 (by kernel_rfl) rfl Tryz.results9 _ Tryz.ntmps9 (by simp) ?_
  simp -implicitDefEqProofs only [go_sem]
theorem wrapD {n : Nat} (h1 : (0 : Int) ≤ n) (h2 : (n : Int) < 4611686018427387904) : IntKind.i64.wrap ((n : Int) + 1) = ((n + 1 : Nat) : Int) := by
  rw [wrap64 (by omega) (by omega)]; omega
theorem runX_inv {code : List Int} (h : code.length ≤ 1099511627776) (ht : trekP (runT0 code)) : TraceL (runX code).land (runX code).journal ∧ ((runX code).journal.length : Int) = (runX code).day := by
  have hp : (runT0 code).journal = [] ∧ (runT0 code).day = 0 := ⟨newTrekZ_party.2.2.1, newTrekZ_party.2.2.2.2.2.1⟩
  have h1 := run36_ok h
  have hl := h1.2.2.2.2.2.2.1
  have h0 : DayInv (runT0 code) := by
    refine ⟨ht, ?_, by rw [hp.1, hp.2]; rfl, fun h => by rw [hp.1] at h; simp at h⟩
    rw [hp.1]
    exact ⟨fun i q hi => by simp at hi, fun i q hi => by simp at hi, by simp⟩
  have := inv_run (runL code) (runT0 code) h0 (by rw [hp.2]; omega)
  exact ⟨this.2.1, this.2.2.1⟩
theorem law_Debriefed (code : List Int) (code_max : code.length ≤ maxLen) : SC Tryz.prog 7 [.at (.im 1 (code.map byteRow))] [] (.at (.v (.bool true))) [] := by
  refine SC.of_VJ mixed Tryz.func7 (by kernel_rfl) rfl Tryz.results7 _ Tryz.ntmps7 (by simp) ?_
  simp -implicitDefEqProofs only [go_sem]
  refine T.stepJ mixed ?_
  simp -implicitDefEqProofs only [go_sem]
  refine callX [] (laws_big code code_max) (by simp -implicitDefEqProofs only [go_sem]) ?_
  simp -implicitDefEqProofs only [go_sem]
  intro hbig
  have hl : code.length ≤ 1099511627776 := by omega
  have hr := run36_ok hl
  have hx := runX_ok hl
  have hf := hx.1.fit
  have hpg := pg_ok hl
  have hxc := hf.cells
  refine callX [] ((spec_DrawRunEvents code hl).frozen) (by simp -implicitDefEqProofs only [go_sem]) ?_
  simp -implicitDefEqProofs only [go_sem]
  refine callX [] ((impl_RunEvents (runT0 code) (runL code) hr.1.sane (by omega) (fun e he => (hr.2.2.2.2.2.1 e he).1.i64)).frozen) (by simp -implicitDefEqProofs only [go_sem]) ?_
  simp -implicitDefEqProofs only [go_sem]
  rw [show runZ (runT0 code) (runL code) = runX code from rfl]
  refine T.joinJ mixed [0] (fun vs es => ∃ (_ : Unit), vs = [.at (.im 1 (code.map byteRow))] ∧ es = [] ∧ True) ?_ ?_
  · simp -implicitDefEqProofs only [go_sem]
    refine callX [] (impl_IsTrek (runT0 code) hr.1.fit) (by simp -implicitDefEqProofs only [go_sem]) ?_
    simp -implicitDefEqProofs only [go_sem]
    refine ⟨fun ht => ?_, fun ht => ?_⟩
    · have hi := runX_inv hl ht
      refine callX [] (impl_IsTrace (runX code).land (runX code).journal hf.cells hf.journal hf.pages) (by simp -implicitDefEqProofs only [go_sem]) ?_
      simp -implicitDefEqProofs only [go_sem]
      exact ⟨fun _ => ⟨fun k => absurd hi.2 k, fun _ => ⟨(), trivial⟩⟩, fun k => absurd hi.1 k⟩
    · exact ⟨(), trivial⟩
  rintro _ _ ⟨_, rfl, rfl, _⟩
  simp -implicitDefEqProofs only [go_sem]
  refine callX [] (spec_DrawStillDays code hl) (by simp -implicitDefEqProofs only [go_sem]) ?_
  simp -implicitDefEqProofs only [go_sem]
  refine callX [] (spec_DrawDaysNear code hl) (by simp -implicitDefEqProofs only [go_sem]) ?_
  simp -implicitDefEqProofs only [go_sem]
  refine callX [] (impl_DaysNear (runX code).land (pg code) (dnC code) (dnF code) hxc hpg.1) (by simp -implicitDefEqProofs only [go_sem]) ?_
  simp -implicitDefEqProofs only [go_sem]
  refine callX [] (spec_DrawLowestFood code hl) (by simp -implicitDefEqProofs only [go_sem]) ?_
  simp -implicitDefEqProofs only [go_sem]
  refine callX [] (impl_LowestFood (pg code) hpg.1 hpg.2) (by simp -implicitDefEqProofs only [go_sem]) ?_
  simp -implicitDefEqProofs only [go_sem]
  have hsb := still_bound (pg code)
  have hnb := near_bnd (x := (runX code).land) (l := pg code) (c := dnC code) (f := dnF code)
  refine T.loopW mixed [0, 6, 8, 11, 12, 13, 14] (fun mm vs es => ∃ (i : Nat), vs = [.at (.im 1 (code.map byteRow)), .at (.im 4 ((pg code).map DPage.row)), .at (.im 4 ((pg code).map DPage.row)), .at (.v (.int .i64 (nearDaysZ (runX code).land (pg code) (dnC code) (dnF code)))), .at (.im 4 ((pg code).map DPage.row)), .at (.v (.int .i64 (lowestZ (pg code)))), .at (.v (.int .i64 (i : Nat)))] ∧ es = [] ∧ mm + i = (pg code).length) ((pg code).length) ?_ ?_
  · simp -implicitDefEqProofs only [go_sem]
    exact ⟨0, rfl, by omega⟩
  rintro q _ _ ⟨i, rfl, rfl, hn⟩
  simp -implicitDefEqProofs only [go_sem]
  refine ⟨fun h1 => ⟨fun h2 => ⟨by omega, fun p hp => ⟨fun h3 => ?_, fun _ => ⟨q - 1, by omega, i + 1, wrapD (by omega) (by omega), by omega⟩⟩⟩, fun h2 => ?_⟩, fun h1 => ?_⟩
  · have := low_le (mem_get hp) h2
    omega
  · skip
    refine callX [] (spec_DrawFirstAt code hl) (by simp -implicitDefEqProofs only [go_sem]) ?_
    simp -implicitDefEqProofs only [go_sem]
    refine callX [] (impl_FirstAt (pg code) (dnC code) hpg.1 hpg.2) (by simp -implicitDefEqProofs only [go_sem]) ?_
    simp -implicitDefEqProofs only [go_sem]
    refine callX [] (impl_StillDays (pg code) hpg.1) (by simp -implicitDefEqProofs only [go_sem]) ?_
    simp -implicitDefEqProofs only [go_sem]
    refine ⟨fun _ => ⟨fun _ => ⟨fun _ => ?_, fun k => k hnb.2⟩, fun k => k hnb.1⟩, fun k => k hsb.2⟩
    intro hd
    refine callX [] (impl_CellOn (pg code) (firstZ (pg code) (dnC code)) hpg.1 hpg.2) (by simp -implicitDefEqProofs only [go_sem]) ?_
    simp -implicitDefEqProofs only [go_sem]
    exact first_cell hd
  · skip
    refine callX [] (spec_DrawFirstAt code hl) (by simp -implicitDefEqProofs only [go_sem]) ?_
    simp -implicitDefEqProofs only [go_sem]
    refine callX [] (impl_FirstAt (pg code) (dnC code) hpg.1 hpg.2) (by simp -implicitDefEqProofs only [go_sem]) ?_
    simp -implicitDefEqProofs only [go_sem]
    refine callX [] (impl_StillDays (pg code) hpg.1) (by simp -implicitDefEqProofs only [go_sem]) ?_
    simp -implicitDefEqProofs only [go_sem]
    refine ⟨fun _ => ⟨fun _ => ⟨fun _ => ?_, fun k => k hnb.2⟩, fun k => k hnb.1⟩, fun k => k hsb.2⟩
    intro hd
    refine callX [] (impl_CellOn (pg code) (firstZ (pg code) (dnC code)) hpg.1 hpg.2) (by simp -implicitDefEqProofs only [go_sem]) ?_
    simp -implicitDefEqProofs only [go_sem]
    exact first_cell hd
end Go.Abs
