/- The law FnMeasured: its walk. -/
import Derived.Test.YtfdkpmbpnppllaaGreatADrawF
import Derived.Test.YtfdkpmbpnppllaaGreatACount
import Derived.Test.YtfdkpmbpnppllaaGreatAWay
import Derived.Test.YtfdkpmbpnppllaaGreatAJournal
import Derived.Test.YtfdkpmbpnppllaaGreatACur
import Derived.Test.YtfdkpmbpnppllaaGreatATrek
namespace Go.Abs
open Go.RowKit Go.Proofs
set_option linter.unusedVariables false
set_option linter.unusedSimpArgs false
set_option maxRecDepth 100000
set_option maxHeartbeats 4000000

/-! ### Pages -/
noncomputable def pg (code : List Int) : List DPage := if onceV (newCur code) 3 = true then (any21 (belowS (newCur code) 3)).1 else (runX code).journal
theorem pg_ok {code : List Int} (h : code.length ≤ 1099511627776) : (pg code).length ≤ 1048576 ∧ ∀ p ∈ pg code, p.wf := by
  have h1 := any21_ok (belowS_ok (newCur_ok h) 3)
  have h2 := (runX_ok h).1.fit
  unfold pg
  split
  · exact ⟨Nat.le_trans h1.1 (by decide), h1.2.1⟩
  · exact ⟨h2.journal, h2.pages⟩
theorem spec_l38Pages (code : List Int) (hl : code.length ≤ 1099511627776) : SC Tryz.prog 114 [.at (.im 1 (code.map byteRow))] [] (.tp [.ag (runX code).land.ats, .at (.im 4 ((pg code).map DPage.row))]) [] := by
  have hr := run36_ok hl
  have hn := newCur_ok hl
  refine SC.of_W mixed Tryz.func114 (by kernel_rfl) rfl Tryz.results114 _ Tryz.ntmps114 (by simp) ?_
  simp -implicitDefEqProofs only [go_sem]
  refine callX [] ((spec_DrawRunEvents code hl).frozen) (by simp -implicitDefEqProofs only [go_sem]) ?_
  simp -implicitDefEqProofs only [go_sem]
  refine callX [] ((spec_RunEvents (runT0 code) (runL code) hr.1.sane (by omega) (fun e he => (hr.2.2.2.2.2.1 e he).1.i64)).frozen) (by simp -implicitDefEqProofs only [go_sem]) ?_
  simp -implicitDefEqProofs only [go_sem]
  rw [show runZ (runT0 code) (runL code) = runX code from rfl]
  refine callX [] (spec_l1New code hl) (by simp -implicitDefEqProofs only [go_sem]) ?_
  simp -implicitDefEqProofs only [go_sem]
  refine callXNB [1272] [] (spec_l1Once (newCur code) 3 hn) (by decide) (by simp -implicitDefEqProofs only [go_sem]) (by simp -implicitDefEqProofs only [go_sem]) ?_
  simp -implicitDefEqProofs only [go_sem]
  refine ⟨fun k => ?_, fun k => ?_⟩
  · have e : pg code = (any21 (belowS (newCur code) 3)).1 := if_pos k
    rw [e]
    refine ⟨some [999999, 1272, 1032], by decide +kernel, ?_⟩
    simp -implicitDefEqProofs only [go_sem]
    refine callXNQ [1272] [] (by decide) ((spec_l21Any (belowS (newCur code) 3) (belowS_ok hn 3)).frozenX (by simp) cur_plainS) (by decide) (by simp -implicitDefEqProofs only [go_sem]) (by simp -implicitDefEqProofs only [go_sem]) ?_
    simp -implicitDefEqProofs only [go_sem]
  · have e : pg code = (runX code).journal := if_neg (by rw [k]; decide)
    rw [e]
    refine ⟨some [1032], by decide +kernel, ?_⟩
    simp -implicitDefEqProofs only [go_sem]
theorem spec_DrawStillDays (code : List Int) (hl : code.length ≤ 1099511627776) : SC Tryz.prog 57 [.at (.im 1 (code.map byteRow))] [] (.at (.im 4 ((pg code).map DPage.row))) [] := by
  refine SC.of_W mixed Tryz.func57 (by kernel_rfl) rfl Tryz.results57 _ Tryz.ntmps57 (by simp) ?_
  simp -implicitDefEqProofs only [go_sem]
  refine callX [] (spec_l38Pages code hl) (by simp -implicitDefEqProofs only [go_sem]) ?_
  simp -implicitDefEqProofs only [go_sem]
noncomputable def dnC (code : List Int) : Int := belowV (newCur code) 12
noncomputable def dnF (code : List Int) : Int := belowV (belowS (newCur code) 12) 4 - 1
theorem spec_DrawDaysNear (code : List Int) (hl : code.length ≤ 1099511627776) : SC Tryz.prog 58 [.at (.im 1 (code.map byteRow))] [] (.tp [.ag (runX code).land.ats, .at (.im 4 ((pg code).map DPage.row)), .at (.v (.int .i64 (dnC code))), .at (.v (.int .i64 (dnF code)))]) [] := by
  have hn := newCur_ok hl
  have hb := belowV_bnd (belowS (newCur code) 12) 4
  have hb2 := hb.2.1 (by omega)
  refine SC.of_W mixed Tryz.func58 (by kernel_rfl) rfl Tryz.results58 _ Tryz.ntmps58 (by simp) ?_
  simp -implicitDefEqProofs only [go_sem]
  refine callX [] (spec_l38Pages code hl) (by simp -implicitDefEqProofs only [go_sem]) ?_
  simp -implicitDefEqProofs only [go_sem]
  refine callX [] (spec_l1New code hl) (by simp -implicitDefEqProofs only [go_sem]) ?_
  simp -implicitDefEqProofs only [go_sem]
  refine callXNB [1256] [] (spec_l1Below (newCur code) 12 hn) (by decide) (by simp -implicitDefEqProofs only [go_sem]) (by simp -implicitDefEqProofs only [go_sem]) ?_
  simp -implicitDefEqProofs only [go_sem]
  refine ⟨some [999999, 1256, 1032], by decide +kernel, ?_⟩
  simp -implicitDefEqProofs only [go_sem]
  refine callXNQ [1256] [] (by decide) (spec_l1Below (belowS (newCur code) 12) 4 (belowS_ok hn 12)) (by decide) (by simp -implicitDefEqProofs only [go_sem]) (by simp -implicitDefEqProofs only [go_sem]) ?_
  simp -implicitDefEqProofs only [go_sem]
  rw [wrap64 (by omega) (by omega)]
  exact ⟨rfl, rfl⟩
theorem spec_DrawLowestFood (code : List Int) (hl : code.length ≤ 1099511627776) : SC Tryz.prog 60 [.at (.im 1 (code.map byteRow))] [] (.at (.im 4 ((pg code).map DPage.row))) [] := by
  refine SC.of_W mixed Tryz.func60 (by kernel_rfl) rfl Tryz.results60 _ Tryz.ntmps60 (by simp) ?_
  simp -implicitDefEqProofs only [go_sem]
  refine callX [] (spec_DrawStillDays code hl) (by simp -implicitDefEqProofs only [go_sem]) ?_
  simp -implicitDefEqProofs only [go_sem]
theorem spec_DrawFirstAt (code : List Int) (hl : code.length ≤ 1099511627776) : SC Tryz.prog 62 [.at (.im 1 (code.map byteRow))] [] (.tp [.at (.im 4 ((pg code).map DPage.row)), .at (.v (.int .i64 (dnC code)))]) [] := by
  have hn := newCur_ok hl
  refine SC.of_W mixed Tryz.func62 (by kernel_rfl) rfl Tryz.results62 _ Tryz.ntmps62 (by simp) ?_
  simp -implicitDefEqProofs only [go_sem]
  refine callX [] (spec_l1New code hl) (by simp -implicitDefEqProofs only [go_sem]) ?_
  simp -implicitDefEqProofs only [go_sem]
  refine callX [] (spec_DrawStillDays code hl) (by simp -implicitDefEqProofs only [go_sem]) ?_
  simp -implicitDefEqProofs only [go_sem]
  refine callXNB [1096] [] (spec_l1Below (newCur code) 12 hn) (by decide) (by simp -implicitDefEqProofs only [go_sem]) (by simp -implicitDefEqProofs only [go_sem]) ?_
  simp -implicitDefEqProofs only [go_sem]
  rfl
/-! ### Journals, lands, rules -/
noncomputable def vj (code : List Int) : List DPage := (any21 (newCur code)).1
theorem spec_DrawIsJournal (code : List Int) (hl : code.length ≤ 1099511627776) : SC Tryz.prog 102 [.at (.im 1 (code.map byteRow))] [] (.at (.im 4 ((vj code).map DPage.row))) [] := by
  refine SC.of_W mixed Tryz.func102 (by kernel_rfl) rfl Tryz.results102 _ Tryz.ntmps102 (by simp) ?_
  simp -implicitDefEqProofs only [go_sem]
  refine callX [] (spec_l1New code hl) (by simp -implicitDefEqProofs only [go_sem]) ?_
  simp -implicitDefEqProofs only [go_sem]
  refine callXNB [1080] [] ((spec_l21Any (newCur code) (newCur_ok hl)).frozenX (by simp) cur_plainS) (by decide) (by simp -implicitDefEqProofs only [go_sem]) (by simp -implicitDefEqProofs only [go_sem]) ?_
  simp -implicitDefEqProofs only [go_sem]
  rfl
theorem spec_DrawVisited (code : List Int) (hl : code.length ≤ 1099511627776) : SC Tryz.prog 40 [.at (.im 1 (code.map byteRow))] [] (.at (.im 4 ((vj code).map DPage.row))) [] := by
  refine SC.of_W mixed Tryz.func40 (by kernel_rfl) rfl Tryz.results40 _ Tryz.ntmps40 (by simp) ?_
  simp -implicitDefEqProofs only [go_sem]
  refine callX [] (spec_DrawIsJournal code hl) (by simp -implicitDefEqProofs only [go_sem]) ?_
  simp -implicitDefEqProofs only [go_sem]
noncomputable def foX (code : List Int) : DLand × DCur := anyF (newCur code)
noncomputable def foB (code : List Int) : Int := belowV (foX code).2 9
noncomputable def foL (code : List Int) : List DPage := (any21 (belowS (foX code).2 9)).1
theorem fo_ok {code : List Int} (h : code.length ≤ 1099511627776) : (foX code).1.cells.length ≤ 30 ∧ (foX code).2.Ok ∧ (foL code).length ≤ 7 := by
  have h1 := anyF_ok (newCur_ok h)
  exact ⟨h1.1, h1.2, (any21_ok (belowS_ok h1.2 9)).1⟩
theorem spec_DrawFarthestOut (code : List Int) (hl : code.length ≤ 1099511627776) : SC Tryz.prog 43 [.at (.im 1 (code.map byteRow))] [] (.tp [.ag (foX code).1.ats, .at (.v (.int .i64 (foB code))), .at (.im 4 ((foL code).map DPage.row))]) [] := by
  have h := fo_ok hl
  refine SC.of_W mixed Tryz.func43 (by kernel_rfl) rfl Tryz.results43 _ Tryz.ntmps43 (by simp) ?_
  simp -implicitDefEqProofs only [go_sem]
  refine callX [] (spec_l1New code hl) (by simp -implicitDefEqProofs only [go_sem]) ?_
  simp -implicitDefEqProofs only [go_sem]
  refine callXNB [1144] [] ((spec_l4Any (newCur code) (newCur_ok hl)).frozenX (by simp) cur_plainS) (by decide) (by simp -implicitDefEqProofs only [go_sem]) (by simp -implicitDefEqProofs only [go_sem]) ?_
  simp -implicitDefEqProofs only [go_sem]
  rw [show anyF (newCur code) = foX code from rfl]
  refine callXNB [1144] [] (spec_l1Below (foX code).2 9 h.2.1) (by decide) (by simp -implicitDefEqProofs only [go_sem]) (by simp -implicitDefEqProofs only [go_sem]) ?_
  simp -implicitDefEqProofs only [go_sem]
  rw [show belowV (foX code).2 9 = foB code from rfl]
  refine ⟨some [999999, 1144, 1032], by decide +kernel, ?_⟩
  simp -implicitDefEqProofs only [go_sem]
  refine callXNQ [1144] [] (by decide) ((spec_l21Any (belowS (foX code).2 9) (belowS_ok h.2.1 9)).frozenX (by simp) cur_plainS) (by decide) (by simp -implicitDefEqProofs only [go_sem]) (by simp -implicitDefEqProofs only [go_sem]) ?_
  simp -implicitDefEqProofs only [go_sem]
  rfl
noncomputable def icA (code : List Int) : DCur := belowS (belowS (foX code).2 30) 30
noncomputable def icC (code : List Int) : Int := intV (rawC (icA code)) [belowV (foX code).2 30, belowV (belowS (foX code).2 30) 30, 0, rawV (icA code)]
theorem spec_DrawIsCell (code : List Int) (hl : code.length ≤ 1099511627776) : SC Tryz.prog 107 [.at (.im 1 (code.map byteRow))] [] (.tp [.ag (foX code).1.ats, .at (.v (.int .i64 (icC code)))]) [] := by
  have h := fo_ok hl
  have h1 : (belowS (foX code).2 30).Ok := belowS_ok h.2.1 30
  have h2 : (icA code).Ok := belowS_ok h1 30
  refine SC.of_W mixed Tryz.func107 (by kernel_rfl) rfl Tryz.results107 _ Tryz.ntmps107 (by simp) ?_
  simp -implicitDefEqProofs only [go_sem]
  refine callX [] (spec_l1New code hl) (by simp -implicitDefEqProofs only [go_sem]) ?_
  simp -implicitDefEqProofs only [go_sem]
  refine callXNB [1112] [] ((spec_l4Any (newCur code) (newCur_ok hl)).frozenX (by simp) cur_plainS) (by decide) (by simp -implicitDefEqProofs only [go_sem]) (by simp -implicitDefEqProofs only [go_sem]) ?_
  simp -implicitDefEqProofs only [go_sem]
  rw [show anyF (newCur code) = foX code from rfl]
  refine ⟨some [999999, 1112, 1032], by decide +kernel, ?_⟩
  simp -implicitDefEqProofs only [go_sem]
  refine callXNQ [1112] [] (by decide) (spec_l1Below (foX code).2 30 h.2.1) (by decide) (by simp -implicitDefEqProofs only [go_sem]) (by simp -implicitDefEqProofs only [go_sem]) ?_
  simp -implicitDefEqProofs only [go_sem, invOf]
  refine callXNQ [1112] [] (by decide) (spec_l1Below (belowS (foX code).2 30) 30 h1) (by decide) (by simp -implicitDefEqProofs only [go_sem]) (by simp -implicitDefEqProofs only [go_sem]) ?_
  simp -implicitDefEqProofs only [go_sem, invOf]
  rw [show belowS (belowS (foX code).2 30) 30 = icA code from rfl]
  refine callXNQ [1112] [] (by decide) (spec_l4Raw (icA code) h2) (by decide) (by simp -implicitDefEqProofs only [go_sem]) (by simp -implicitDefEqProofs only [go_sem]) ?_
  simp -implicitDefEqProofs only [go_sem, invOf]
  refine callXNQ [1112] [1288] (by decide) (spec_l1Int (rawC (icA code)) [belowV (foX code).2 30, belowV (belowS (foX code).2 30) 30, 0, rawV (icA code)] (rawC_ok h2) (by simp) (by simp)) (by decide) (by simp -implicitDefEqProofs only [go_sem]) (by simp -implicitDefEqProofs only [go_sem]) ?_
  simp -implicitDefEqProofs only [go_sem]
  rfl
noncomputable def csF (code : List Int) : Int := belowV (newCur code) 6 - 1
theorem spec_DrawCanSee (code : List Int) (hl : code.length ≤ 1099511627776) : SC Tryz.prog 46 [.at (.im 1 (code.map byteRow))] [] (.tp [.ag (foX code).1.ats, .at (.v (.int .i64 (icC code))), .at (.v (.int .i64 (csF code)))]) [] := by
  have hn := newCur_ok hl
  have hb := belowV_bnd (newCur code) 6
  have hb2 := hb.2.1 (by omega)
  refine SC.of_W mixed Tryz.func46 (by kernel_rfl) rfl Tryz.results46 _ Tryz.ntmps46 (by simp) ?_
  simp -implicitDefEqProofs only [go_sem]
  refine callX [] (spec_DrawIsCell code hl) (by simp -implicitDefEqProofs only [go_sem]) ?_
  simp -implicitDefEqProofs only [go_sem]
  refine callX [] (spec_l1New code hl) (by simp -implicitDefEqProofs only [go_sem]) ?_
  simp -implicitDefEqProofs only [go_sem]
  refine ⟨some [999999, 1224, 1032], by decide +kernel, ?_⟩
  simp -implicitDefEqProofs only [go_sem]
  refine callXNQ [1224] [] (by decide) (spec_l1Below (newCur code) 6 hn) (by decide) (by simp -implicitDefEqProofs only [go_sem]) (by simp -implicitDefEqProofs only [go_sem]) ?_
  simp -implicitDefEqProofs only [go_sem]
  rw [wrap64 (by omega) (by omega)]
  rfl
noncomputable def kpL (code : List Int) : List Bool := (any6 (newCur code)).1.2
theorem spec_DrawKeeps (code : List Int) (hl : code.length ≤ 1099511627776) : SC Tryz.prog 159 [.at (.im 1 (code.map byteRow))] [] (.tp [.ag (any6 (newCur code)).1.1.ats, .at (.im 1 ((kpL code).map boolRow))]) [] := by
  refine SC.of_W mixed Tryz.func159 (by kernel_rfl) rfl Tryz.results159 _ Tryz.ntmps159 (by simp) ?_
  simp -implicitDefEqProofs only [go_sem]
  refine callX [] (spec_l1New code hl) (by simp -implicitDefEqProofs only [go_sem]) ?_
  simp -implicitDefEqProofs only [go_sem]
  refine callXNB [1096] [] ((spec_l6Any (newCur code) (newCur_ok hl)).frozenX (by simp) cur_plainS) (by decide) (by simp -implicitDefEqProofs only [go_sem]) (by simp -implicitDefEqProofs only [go_sem]) ?_
  simp -implicitDefEqProofs only [go_sem]
  rfl
theorem spec_DrawCountStorms (code : List Int) (hl : code.length ≤ 1099511627776) : SC Tryz.prog 110 [.at (.im 1 (code.map byteRow))] [] (.at (.im 1 ((kpL code).map boolRow))) [] := by
  refine SC.of_W mixed Tryz.func110 (by kernel_rfl) rfl Tryz.results110 _ Tryz.ntmps110 (by simp) ?_
  simp -implicitDefEqProofs only [go_sem]
  refine callX [] (spec_DrawKeeps code hl) (by simp -implicitDefEqProofs only [go_sem]) ?_
  simp -implicitDefEqProofs only [go_sem]
theorem spec_DrawStormShare (code : List Int) (hl : code.length ≤ 1099511627776) : SC Tryz.prog 51 [.at (.im 1 (code.map byteRow))] [] (.at (.im 1 ((kpL code).map boolRow))) [] := by
  refine SC.of_W mixed Tryz.func51 (by kernel_rfl) rfl Tryz.results51 _ Tryz.ntmps51 (by simp) ?_
  simp -implicitDefEqProofs only [go_sem]
  refine callX [] (spec_DrawCountStorms code hl) (by simp -implicitDefEqProofs only [go_sem]) ?_
  simp -implicitDefEqProofs only [go_sem]
theorem spec_DrawIsLand (code : List Int) (hl : code.length ≤ 1099511627776) : SC Tryz.prog 113 [.at (.im 1 (code.map byteRow))] [] (.ag (foX code).1.ats) [] := by
  refine SC.of_W mixed Tryz.func113 (by kernel_rfl) rfl Tryz.results113 _ Tryz.ntmps113 (by simp) ?_
  simp -implicitDefEqProofs only [go_sem]
  refine callX [] (spec_l1New code hl) (by simp -implicitDefEqProofs only [go_sem]) ?_
  simp -implicitDefEqProofs only [go_sem]
  refine callXNB [1080] [] ((spec_l4Any (newCur code) (newCur_ok hl)).frozenX (by simp) cur_plainS) (by decide) (by simp -implicitDefEqProofs only [go_sem]) (by simp -implicitDefEqProofs only [go_sem]) ?_
  simp -implicitDefEqProofs only [go_sem]
  exact ⟨rfl, rfl, rfl⟩
theorem spec_DrawOpenShare (code : List Int) (hl : code.length ≤ 1099511627776) : SC Tryz.prog 53 [.at (.im 1 (code.map byteRow))] [] (.ag (foX code).1.ats) [] := by
  refine SC.of_W mixed Tryz.func53 (by kernel_rfl) rfl Tryz.results53 _ Tryz.ntmps53 (by simp) ?_
  simp -implicitDefEqProofs only [go_sem]
  refine callX [] (spec_DrawIsLand code hl) (by simp -implicitDefEqProofs only [go_sem]) ?_
  simp -implicitDefEqProofs only [go_sem]
end Go.Abs

namespace Go.Abs
open Go.RowKit Go.Proofs
set_option linter.unusedVariables false
set_option linter.unusedSimpArgs false
set_option maxRecDepth 100000

theorem DLand.apart_0 (x : DLand) (a b : Int) : 0 ≤ x.apart a b := by
  unfold DLand.apart; omega
theorem DLand.apartZ_comm (x : DLand) (a b : Int) : x.apartZ a b = x.apartZ b a := by
  unfold DLand.apartZ
  have e : x.apart a b = x.apart b a := by unfold DLand.apart; omega
  by_cases h : x.Cell a ∧ x.Cell b
  · rw [if_pos h, if_pos ⟨h.2, h.1⟩, e]
  · rw [if_neg h, if_neg (fun k => h ⟨k.2, k.1⟩)]
/-- A cell is seen from another. -/
def DLand.Sees (x : DLand) (a f b : Int) : Prop := 0 ≤ x.apartZ a b ∧ x.apartZ a b ≤ f
noncomputable instance (x : DLand) (a f b : Int) : Decidable (x.Sees a f b) := Classical.propDecidable _
theorem DLand.sees_cell {x : DLand} {a f b : Int} (h : x.Sees a f b) : x.Cell a := by
  have := h.1
  unfold DLand.apartZ at this
  split at this
  · rename_i k; exact k.1
  · omega
noncomputable def seeTo (x : DLand) (a f : Int) (c : Nat) : List Int := ((List.range c).filter fun (c : Nat) => decide (x.Sees a f c)).map fun (c : Nat) => (c : Int)
theorem seeTo_yes {x : DLand} {a f : Int} {c : Nat} (h : x.Sees a f c) : seeTo x a f (c + 1) = seeTo x a f c ++ [(c : Int)] := by
  simp [seeTo, List.range_succ, h]
theorem seeTo_no {x : DLand} {a f : Int} {c : Nat} (h : ¬ x.Sees a f c) : seeTo x a f (c + 1) = seeTo x a f c := by
  simp [seeTo, List.range_succ, h]
theorem seeTo_len {x : DLand} {a f : Int} {c : Nat} : (seeTo x a f c).length ≤ c := by
  have := List.length_filter_le (fun (c : Nat) => decide (x.Sees a f c)) (List.range c)
  simp [seeTo] at *; omega
theorem seeTo_none {x : DLand} {a f : Int} {c : Nat} (h : ¬ x.Cell a) : seeTo x a f c = [] := by
  simp [seeTo]; intro b _ k; exact h (DLand.sees_cell k)
noncomputable def seeZ (x : DLand) (a f : Int) : List Int := seeTo x a f x.cells.length
theorem impl_CanSee (x : DLand) (a f : Int) (hl : x.cells.length ≤ 1048576) : SC Tryz.prog 47 [.ag x.ats, .at (.v (.int .i64 a)), .at (.v (.int .i64 f))] [] (.at (.fr 1 ((seeZ x a f).map intRow))) [] := by
  refine SC.of_W mixed Tryz.func47 (by kernel_rfl) rfl Tryz.results47 _ Tryz.ntmps47 (by simp) ?_
  simp -implicitDefEqProofs only [go_sem]
  refine T.loopW mixed [1, 2, 3, 7, 13, 14] (fun mm vs es => ∃ (c : Nat), vs = [.at (.v (.int .i64 a)), .at (.v (.int .i64 f)), .at (.bx 100 0 0), .at (.ow 101 0 1 ((seeTo x a f c).length)), .at (.v (.int .i64 x.cells.length)), .at (.v (.int .i64 c))] ∧ es = [.box 0 x.ats, .arr 0 1 ((seeTo x a f c).map intRow)] ∧ mm + c = x.cells.length) x.cells.length ?_ ?_
  · simp -implicitDefEqProofs only [go_sem]; exact ⟨0, by simp [seeTo]⟩
  rintro n _ _ ⟨c, rfl, rfl, hn⟩
  simp -implicitDefEqProofs only [go_sem]
  refine ⟨fun h => ?_, fun h => ?_⟩
  · refine callX [] (impl_Apart x a c hl) (by simp -implicitDefEqProofs only [go_sem]) ?_
    simp -implicitDefEqProofs only [go_sem]
    rw [wrap64 (by omega) (by omega)]
    have hv := seeTo_len (x := x) (a := a) (f := f) (c := c)
    have no : ¬ x.Sees a f c → seeTo x a f (c + 1) = seeTo x a f c := seeTo_no
    refine ⟨fun k1 => ⟨fun k2 => ⟨room8 (by omega), n - 1, by omega, c + 1, ⟨by rw [seeTo_yes ⟨by omega, k2⟩]; simp, rfl⟩, by rw [seeTo_yes ⟨by omega, k2⟩]; simp [intRow], by omega⟩, fun k2 => ⟨n - 1, by omega, c + 1, ⟨by rw [seeTo_no (fun h => k2 h.2)], rfl⟩, by rw [seeTo_no (fun h => k2 h.2)], by omega⟩⟩, fun k1 => ⟨n - 1, by omega, c + 1, ⟨by rw [seeTo_no (fun h => k1 (by have := h.1; omega))], rfl⟩, by rw [seeTo_no (fun h => k1 (by have := h.1; omega))], by omega⟩⟩
  · have : c = x.cells.length := by omega
    subst this
    exact ⟨rfl, rfl⟩
noncomputable def nearDaysZ (x : DLand) (l : List DPage) (c f : Int) : Int := sumL (fun p => if x.Sees c f p.cell then 1 else 0) l
theorem impl_DaysNear (x : DLand) (l : List DPage) (c f : Int) (hx : x.cells.length ≤ 1048576) (hl : l.length ≤ 1048576) : SC Tryz.prog 59 [.ag x.ats, .at (.im 4 (l.map DPage.row)), .at (.v (.int .i64 c)), .at (.v (.int .i64 f))] [] (.at (.v (.int .i64 (nearDaysZ x l c f)))) [] := by
  refine SC.of_V mixed Tryz.func59 (by kernel_rfl) rfl Tryz.results59 _ Tryz.ntmps59 (by simp) ?_
  simp -implicitDefEqProofs only [go_sem]
  refine T.loopW mixed [2, 3, 4, 9, 13, 14, 15] (fun mm vs es => ∃ (i : Nat), vs = [.at (.v (.int .i64 c)), .at (.v (.int .i64 f)), .at (.bx 100 0 0), .at (.v (.int .i64 (sumT (fun p => if x.Sees c f p.cell then 1 else 0) l i))), .at (.im 4 (l.map DPage.row)), .at (.v (.int .i64 l.length)), .at (.v (.int .i64 i))] ∧ es = [.box 0 x.ats] ∧ mm + i = l.length) l.length ?_ ?_
  · simp -implicitDefEqProofs only [go_sem]; exact ⟨0, ⟨sum0.symm, rfl⟩, by omega⟩
  rintro n _ _ ⟨i, rfl, rfl, hn⟩
  simp -implicitDefEqProofs only [go_sem]
  have hb := sum_bound (f := fun p : DPage => if x.Sees c f p.cell then 1 else 0) (l := l) (B := 1) (i := i) (fun c _ => by split <;> omega) (by omega)
  refine ⟨fun h => ⟨by omega, fun p hp => ?_⟩, fun h => sumEnd h⟩
  refine callX [] (impl_Apart x p.cell c hx) (by simp -implicitDefEqProofs only [go_sem]) ?_
  simp -implicitDefEqProofs only [go_sem]
  have e := x.apartZ_comm p.cell c
  rw [wrap64 (by omega) (by omega)]
  have no : ¬ x.Sees c f p.cell → sumT (fun p : DPage => if x.Sees c f p.cell then 1 else 0) l i = sumT (fun p : DPage => if x.Sees c f p.cell then 1 else 0) l (i + 1) := fun h => by rw [sumS hp, if_neg h]; simp
  refine ⟨fun k1 => ⟨fun k2 => ?_, fun k2 => ?_⟩, fun k1 => ?_⟩
  · rw [wrap64 (by omega) (by omega)]
    exact ⟨n - 1, by omega, i + 1, ⟨by rw [sumS hp, if_pos ⟨by omega, by omega⟩], rfl⟩, by omega⟩
  · exact ⟨n - 1, by omega, i + 1, ⟨no (fun h => by have := h.2; omega), by rw [wrap64 (by omega) (by omega)]; rfl⟩, by omega⟩
  · exact ⟨n - 1, by omega, i + 1, ⟨no (fun h => by have := h.1; omega), by rw [wrap64 (by omega) (by omega)]; rfl⟩, by omega⟩
end Go.Abs

namespace Go.Abs
open Go.RowKit Go.Proofs
set_option linter.unusedVariables false
set_option linter.unusedSimpArgs false
set_option maxRecDepth 100000

noncomputable def farTo (x : DLand) (b : Int) (l : List DPage) : Int := l.foldl (fun n p => max n (daysZ x b p.cell)) (-1)
theorem farTo_S {x : DLand} {b : Int} {l : List DPage} {i : Nat} {p : DPage} (h : l[i]? = some p) : farTo x b (l.take (i + 1)) = max (farTo x b (l.take i)) (daysZ x b p.cell) := by
  simp only [farTo, List.take_add_one, h, Option.toList_some, List.foldl_append, List.foldl_cons, List.foldl_nil]
theorem impl_FarthestOut (x : DLand) (b : Int) (l : List DPage) (hx : x.cells.length ≤ 1048576) (hl : l.length ≤ 1048576) : SC Tryz.prog 44 [.ag x.ats, .at (.v (.int .i64 b)), .at (.im 4 (l.map DPage.row))] [] (.at (.v (.int .i64 (farTo x b l)))) [] := by
  refine SC.of_V mixed Tryz.func44 (by kernel_rfl) rfl Tryz.results44 _ Tryz.ntmps44 (by simp) ?_
  simp -implicitDefEqProofs only [go_sem]
  refine T.loopW mixed [1, 3, 7, 10, 11, 12] (fun mm vs es => ∃ (i : Nat), vs = [.at (.v (.int .i64 b)), .at (.bx 100 0 0), .at (.v (.int .i64 (farTo x b (l.take i)))), .at (.im 4 (l.map DPage.row)), .at (.v (.int .i64 l.length)), .at (.v (.int .i64 i))] ∧ es = [.box 0 x.ats] ∧ mm + i = l.length) l.length ?_ ?_
  · simp -implicitDefEqProofs only [go_sem]; exact ⟨0, ⟨rfl, rfl⟩, by omega⟩
  rintro n _ _ ⟨i, rfl, rfl, hn⟩
  simp -implicitDefEqProofs only [go_sem]
  refine ⟨fun h => ?_, fun h => by rw [List.take_of_length_le (by omega)]⟩
  refine ⟨by omega, fun p hp => ?_⟩
  refine callX [] (impl_Days x b p.cell hx) (by simp -implicitDefEqProofs only [go_sem]) ?_
  simp -implicitDefEqProofs only [go_sem]
  rw [wrap64 (by omega) (by omega)]
  exact ⟨n - 1, by omega, i + 1, ⟨(farTo_S hp).symm, rfl⟩, by omega⟩
end Go.Abs

namespace Go.Abs
open Go.RowKit Go.Proofs
set_option linter.unusedVariables false
set_option linter.unusedSimpArgs false
set_option maxRecDepth 100000

theorem asc_range {p : Nat → Bool} {c : Nat} : (((List.range c).filter p).map fun (c : Nat) => (c : Int)).Pairwise (· < ·) := by
  rw [List.pairwise_map]
  refine List.Pairwise.imp (R := (· < ·)) (fun h => by omega) ?_
  exact (List.pairwise_lt_range).filter _
theorem visit_asc {l : List DPage} {c : Nat} : (visitTo l c).Pairwise (· < ·) := asc_range
theorem see_asc {x : DLand} {a f : Int} : (seeZ x a f).Pairwise (· < ·) := asc_range
theorem mem_range {p : Nat → Prop} [DecidablePred p] {c : Nat} {k : Int} : k ∈ ((List.range c).filter fun c => decide (p c)).map (fun (c : Nat) => (c : Int)) ↔ (0 ≤ k ∧ k < c) ∧ p k.toNat := by
  rw [List.mem_map]
  constructor
  · rintro ⟨n, hn, rfl⟩
    obtain ⟨h1, h2⟩ := List.mem_filter.1 hn
    have := List.mem_range.1 h1
    exact ⟨by omega, by rw [Int.toNat_natCast]; exact of_decide_eq_true h2⟩
  · rintro ⟨⟨h1, h2⟩, h3⟩
    exact ⟨k.toNat, List.mem_filter.2 ⟨List.mem_range.2 (by omega), decide_eq_true h3⟩, by omega⟩
theorem visit_mem {l : List DPage} {p : DPage} (hp : p ∈ l) (h : 0 ≤ p.cell ∧ p.cell < 64) : p.cell ∈ visitTo l 64 := by
  unfold visitTo
  refine mem_range.2 ⟨by omega, p, hp, by omega⟩
theorem see_self {x : DLand} {a f : Int} : (x.Cell a ∧ 0 ≤ f) ↔ a ∈ seeZ x a f := by
  have h0 : x.Cell a → x.apartZ a a = 0 := fun h => by
    rw [DLand.apartZ, if_pos ⟨h, h⟩, DLand.apart]; omega
  unfold seeZ seeTo
  rw [mem_range]
  constructor
  · rintro ⟨h1, h2⟩
    have e : ((a.toNat : Nat) : Int) = a := by have := h1.2; omega
    refine ⟨h1.2, ?_⟩
    unfold DLand.Sees
    rw [e, h0 h1]; omega
  · rintro ⟨h1, h2⟩
    have e : ((a.toNat : Nat) : Int) = a := by omega
    unfold DLand.Sees at h2
    rw [e] at h2
    have hc : x.Cell a := by
      refine Decidable.byContradiction fun hn => ?_
      rw [DLand.apartZ, if_neg (fun h => hn h.1)] at h2
      omega
    rw [h0 hc] at h2
    exact ⟨hc, by omega⟩
theorem far_mono {x : DLand} {b : Int} : ∀ (l : List DPage) (n : Int), n ≤ l.foldl (fun n p => max n (daysZ x b p.cell)) n ∧ ∀ p ∈ l, daysZ x b p.cell ≤ l.foldl (fun n p => max n (daysZ x b p.cell)) n := by
  intro l
  induction l with
  | nil => intro n; exact ⟨Int.le_refl _, fun p hp => by cases hp⟩
  | cons q l ih =>
    intro n
    have h := ih (max n (daysZ x b q.cell))
    rw [List.foldl_cons]
    refine ⟨by omega, fun p hp => ?_⟩
    rcases List.mem_cons.1 hp with rfl | hp
    · omega
    · exact h.2 p hp
theorem far_le {x : DLand} {b : Int} {l : List DPage} {p : DPage} (hp : p ∈ l) : daysZ x b p.cell ≤ farTo x b l := (far_mono l (-1)).2 p hp
theorem low_mono : ∀ (l : List DPage) (n : Int), l.foldl (fun n p => min n p.food) n ≤ n ∧ ∀ p ∈ l, l.foldl (fun n p => min n p.food) n ≤ p.food := by
  intro l
  induction l with
  | nil => intro n; exact ⟨Int.le_refl _, fun p hp => by cases hp⟩
  | cons q l ih =>
    intro n
    have h := ih (min n q.food)
    rw [List.foldl_cons]
    refine ⟨by omega, fun p hp => ?_⟩
    rcases List.mem_cons.1 hp with rfl | hp
    · omega
    · exact h.2 p hp
theorem low_le {l : List DPage} {p : DPage} (hp : p ∈ l) (h : 0 ≤ lowestZ l) : lowestZ l ≤ p.food := by
  unfold lowestZ at h ⊢
  split at h
  · omega
  · rename_i hn
    rw [if_neg hn]
    exact (low_mono l _).2 p hp
theorem near_bnd {x : DLand} {l : List DPage} {c f : Int} : 0 ≤ nearDaysZ x l c f ∧ nearDaysZ x l c f ≤ l.length := by
  have := sum_all (f := fun p : DPage => if x.Sees c f p.cell then (1 : Int) else 0) (l := l) (B := 1) (fun p _ => by split <;> omega)
  unfold nearDaysZ; omega
end Go.Abs

namespace Go.Abs
open Go.RowKit Go.Proofs
set_option linter.unusedVariables false
set_option linter.unusedSimpArgs false
set_option maxRecDepth 100000
set_option maxHeartbeats 4000000

theorem wrapS' {x y : Int} (h : x = y) (h1 : -9223372036854775808 ≤ x) (h2 : x ≤ 9223372036854775807) : IntKind.i64.wrap x = y := by rw [wrap64 h1 (by omega), h]
theorem laws_ascends (l : List Int) (hl : l.length ≤ 1048576) (h : l.Pairwise (· < ·)) : SC Tryz.prog 54 [.at (.im 1 (l.map intRow))] [] (.at (.v (.bool true))) [] := by
  refine SC.of_V mixed Tryz.func54 (by kernel_rfl) rfl Tryz.results54 _ Tryz.ntmps54 (by simp) ?_
  simp -implicitDefEqProofs only [go_sem]
  refine T.loopW mixed [0, 3] (fun mm vs es => ∃ (i : Nat), vs = [.at (.im 1 (l.map intRow)), .at (.v (.int .i64 (i : Nat)))] ∧ es = [] ∧ mm + i = l.length + 1 ∧ 1 ≤ i) l.length ?_ ?_
  · simp -implicitDefEqProofs only [go_sem]
    exact ⟨1, rfl, by omega, Nat.le_refl _⟩
  rintro q _ _ ⟨i, rfl, rfl, hn, hi⟩
  simp -implicitDefEqProofs only [go_sem]
  · intro hlt
    refine ⟨some [], by decide +kernel, ?_⟩
    simp -implicitDefEqProofs only [go_sem]
    rw [wrap64 (by omega) (by omega), show ((i : Int) - 1).toNat = i - 1 by omega]
    refine ⟨by omega, fun a ha => ⟨by omega, fun b hb => ⟨fun hle => ?_, fun _ => ⟨q - 1, by omega, i + 1, wrapS' (by omega) (by omega) (by omega), by omega, by omega⟩⟩⟩⟩
    have h1 := List.pairwise_iff_getElem.1 h (i - 1) i (List.getElem?_eq_some_iff.1 ha).1 (List.getElem?_eq_some_iff.1 hb).1 (by omega)
    rw [(List.getElem?_eq_some_iff.1 ha).2, (List.getElem?_eq_some_iff.1 hb).2] at h1
    omega
theorem laws_contains (l : List Int) (n : Int) (hl : l.length ≤ 1048576) : SC Tryz.prog 42 [.at (.im 1 (l.map intRow)), .at (.v (.int .i64 n))] [] (.at (.v (.bool (decide (n ∈ l))))) [] := by
  refine SC.of_V mixed Tryz.func42 (by kernel_rfl) rfl Tryz.results42 _ Tryz.ntmps42 (by simp) ?_
  simp -implicitDefEqProofs only [go_sem]
  refine T.loopW mixed [0, 1, 5] (fun mm vs es => ∃ (i : Nat), vs = [.at (.im 1 (l.map intRow)), .at (.v (.int .i64 n)), .at (.v (.int .i64 (i : Nat)))] ∧ es = [] ∧ mm + i = l.length ∧ n ∉ l.take i) l.length ?_ ?_
  · simp -implicitDefEqProofs only [go_sem]
    exact ⟨0, rfl, by omega, by simp⟩
  rintro q _ _ ⟨i, rfl, rfl, hn, hs⟩
  simp -implicitDefEqProofs only [go_sem]
  refine ⟨fun hlt => ⟨by omega, fun c hcc => ⟨fun e => dec_t (by rw [← e]; exact mem_get hcc), fun e => ⟨q - 1, by omega, i + 1, wrapS' (by omega) (by omega) (by omega), by omega, ?_⟩⟩⟩, fun hlt => ?_⟩
  · rw [List.take_add_one, hcc]
    simp only [Option.toList_some, List.mem_append, List.mem_singleton, not_or]
    exact ⟨hs, fun h => e h.symm⟩
  · rw [List.take_of_length_le (by omega)] at hs
    exact dec_f hs
end Go.Abs

namespace Go.Abs
open Go.RowKit Go.Proofs
set_option linter.unusedVariables false
set_option linter.unusedSimpArgs false
set_option maxRecDepth 100000
set_option maxHeartbeats 4000000

theorem laws_big (code : List Int) (h : code.length ≤ maxLen) : SC Tryz.prog 9 [.at (.im 1 (code.map byteRow))] [] (.at (.v (.bool (decide ((1048576 : Int) < code.length))))) [] := by
  refine SC.of_V mixed Tryz.func9 (by kernel_rfl) rfl Tryz.results9 _ Tryz.ntmps9 (by simp) ?_
  simp -implicitDefEqProofs only [go_sem]
theorem wrapD {n : Nat} (h1 : (0 : Int) ≤ n) (h2 : (n : Int) < 4611686018427387904) : IntKind.i64.wrap ((n : Int) + 1) = ((n + 1 : Nat) : Int) := by
  rw [wrap64 (by omega) (by omega)]; omega
theorem dec_beqM {p q : Prop} [Decidable p] [Decidable q] (h : p ↔ q) : (decide p == decide q) = true := by
  rw [beq_iff_eq]; exact decide_eq_decide.2 h
theorem share_bnd {a n : Int} (h : 0 ≤ a ∧ a ≤ n) : 0 ≤ (100 * a).tdiv n ∧ (100 * a).tdiv n ≤ 100 := by
  have h0 := Int.tdiv_nonneg (a := 100 * a) (b := n) (by omega) (by omega)
  refine ⟨h0, ?_⟩
  rw [Int.tdiv_eq_ediv_of_nonneg (by omega)]
  by_cases hn : n = 0
  · subst hn; simp
  · exact Int.ediv_le_of_le_mul (by omega) (by omega)
theorem storm_bnd (l : List Bool) : 0 ≤ stormShareZ l ∧ stormShareZ l ≤ 100 := by
  unfold stormShareZ
  split
  · omega
  · exact share_bnd (stormZ_bound l)
theorem open_bnd (x : DLand) : 0 ≤ openShareZ x ∧ openShareZ x ≤ 100 := by
  unfold openShareZ
  split
  · have hb := sum_all (f := fun c : Int => if c = 2 then 1 else 0) (l := x.cells) (B := 1) (fun c _ => by split <;> omega)
    exact share_bnd (by omega)
  · omega
theorem left_bnd (t : DTrek) : 0 ≤ (if 0 < t.given ∧ trekP t then (100 * (t.party.food + foodZ t.depots)).tdiv t.given else 0) ∧ (if 0 < t.given ∧ trekP t then (100 * (t.party.food + foodZ t.depots)).tdiv t.given else 0) ≤ 100 := by
  split
  · rename_i h
    obtain ⟨h1, h2, h3, h4⟩ := h.2.2.2.2.2.2
    have hfd := trek_food h.2.1
    exact share_bnd (by omega)
  · omega
theorem law_Measured (code : List Int) (code_max : code.length ≤ maxLen) : SC Tryz.prog 6 [.at (.im 1 (code.map byteRow))] [] (.at (.v (.bool true))) [] := by
  refine SC.of_V mixed Tryz.func6 (by kernel_rfl) rfl Tryz.results6 _ Tryz.ntmps6 (by simp) ?_
  simp -implicitDefEqProofs only [go_sem]
  refine callX [] (laws_big code code_max) (by simp -implicitDefEqProofs only [go_sem]) ?_
  simp -implicitDefEqProofs only [go_sem]
  intro hbig
  have hl : code.length ≤ 1099511627776 := by omega
  have hv : (vj code).length ≤ 7 ∧ ∀ p ∈ vj code, p.wf := ⟨(any21_ok (newCur_ok hl)).1, (any21_ok (newCur_ok hl)).2.1⟩
  have hfo := fo_ok hl
  have hx := x36_ok hl
  have hkp : (kpL code).length ≤ 15 := (any6_ok (newCur_ok hl)).1
  have hL := left_bnd (x36 code)
  have hS := storm_bnd (kpL code)
  have hO := open_bnd (foX code).1
  refine callX [] (spec_DrawVisited code hl) (by simp -implicitDefEqProofs only [go_sem]) ?_
  simp -implicitDefEqProofs only [go_sem]
  refine callX [] ((impl_Visited (vj code) (by omega)).frozen) (by simp -implicitDefEqProofs only [go_sem]) ?_
  simp -implicitDefEqProofs only [go_sem]
  have hvl : (visitTo (vj code) 64).length ≤ 64 := visitTo_len
  refine T.loopW mixed [0, 3, 4, 5] (fun mm vs es => ∃ (i : Nat), vs = [.at (.im 1 (code.map byteRow)), .at (.im 4 ((vj code).map DPage.row)), .at (.im 1 ((visitTo (vj code) 64).map intRow)), .at (.v (.int .i64 (i : Nat)))] ∧ es = [] ∧ mm + i = (vj code).length) ((vj code).length) ?_ ?_
  · simp -implicitDefEqProofs only [go_sem]
    exact ⟨0, rfl, by omega⟩
  rintro q _ _ ⟨i, rfl, rfl, hn⟩
  simp -implicitDefEqProofs only [go_sem]
  refine ⟨fun h1 => ⟨by omega, fun p hp => ?_⟩, fun h1 => ?_⟩
  · refine ⟨fun k1 => ⟨by omega, fun p2 hp2 => ⟨fun k2 => ⟨by omega, fun p3 hp3 => ?_⟩, fun k2 => ?_⟩⟩, fun k1 => ?_⟩
    · refine callX [] (laws_contains (visitTo (vj code) 64) p3.cell (by omega)) (by simp -implicitDefEqProofs only [go_sem]) ?_
      simp -implicitDefEqProofs only [go_sem]
      have e2 : p2 = p := by rw [hp] at hp2; exact (Option.some.inj hp2).symm
      have e3 : p3 = p := by rw [hp] at hp3; exact (Option.some.inj hp3).symm
      have hm := visit_mem (mem_get hp) ⟨k1, e2 ▸ k2⟩
      exact ⟨fun k => absurd (by rw [e3]; exact hm) k, fun _ => ⟨q - 1, by omega, i + 1, wrapD (by omega) (by omega), by omega⟩⟩
    · exact ⟨q - 1, by omega, i + 1, wrapD (by omega) (by omega), by omega⟩
    · exact ⟨q - 1, by omega, i + 1, wrapD (by omega) (by omega), by omega⟩
  · refine callX [] (spec_DrawFarthestOut code hl) (by simp -implicitDefEqProofs only [go_sem]) ?_
    simp -implicitDefEqProofs only [go_sem]
    refine callX [] (impl_FarthestOut (foX code).1 (foB code) (foL code) (by omega) (by omega)) (by simp -implicitDefEqProofs only [go_sem]) ?_
    simp -implicitDefEqProofs only [go_sem]
    refine T.loopW mixed [0, 4, 6, 7, 8, 9, 10] (fun mm vs es => ∃ (i : Nat), vs = [.at (.im 1 (code.map byteRow)), .at (.im 1 ((visitTo (vj code) 64).map intRow)), .at (.bx 100 0 0), .at (.v (.int .i64 (foB code))), .at (.im 4 ((foL code).map DPage.row)), .at (.v (.int .i64 (farTo (foX code).1 (foB code) (foL code)))), .at (.v (.int .i64 (i : Nat)))] ∧ es = [.box 0 (foX code).1.ats] ∧ mm + i = (foL code).length) ((foL code).length) ?_ ?_
    · simp -implicitDefEqProofs only [go_sem]
      exact ⟨0, rfl, by omega⟩
    rintro q2 _ _ ⟨i2, rfl, rfl, hn2⟩
    simp -implicitDefEqProofs only [go_sem]
    refine ⟨fun h2 => ?_, fun h2 => ?_⟩
    · refine ⟨some [], by decide +kernel, ?_⟩
      simp -implicitDefEqProofs only [go_sem]
      refine ⟨by omega, fun p hp => ?_⟩
      refine callXQ [] (impl_Days (foX code).1 (foB code) p.cell (by omega)) (by simp -implicitDefEqProofs only [go_sem]) ?_
      simp -implicitDefEqProofs only [go_sem]
      have := far_le (x := (foX code).1) (b := foB code) (mem_get hp)
      exact ⟨fun k => by omega, fun _ => ⟨q2 - 1, by omega, i2 + 1, wrapD (by omega) (by omega), by omega⟩⟩
    · refine callX [] (spec_DrawCanSee code hl) (by simp -implicitDefEqProofs only [go_sem]) ?_
      simp -implicitDefEqProofs only [go_sem]
      refine callX [] ((impl_CanSee (foX code).1 (icC code) (csF code) (by omega)).frozen) (by simp -implicitDefEqProofs only [go_sem]) ?_
      simp -implicitDefEqProofs only [go_sem]
      have hsl := seeTo_len (x := (foX code).1) (a := icC code) (f := csF code) (c := (foX code).1.cells.length)
      refine callX [] (spec_DrawFoodLeftShare code hl) (by simp -implicitDefEqProofs only [go_sem]) ?_
      simp -implicitDefEqProofs only [go_sem]
      refine callX [] (impl_FoodLeftShare (x36 code) hx.1.fit) (by simp -implicitDefEqProofs only [go_sem]) ?_
      simp -implicitDefEqProofs only [go_sem]
      refine callX [] (spec_DrawStormShare code hl) (by simp -implicitDefEqProofs only [go_sem]) ?_
      simp -implicitDefEqProofs only [go_sem]
      refine callX [] (impl_StormShare (kpL code) (by omega)) (by simp -implicitDefEqProofs only [go_sem]) ?_
      simp -implicitDefEqProofs only [go_sem]
      refine callX [] (spec_DrawOpenShare code hl) (by simp -implicitDefEqProofs only [go_sem]) ?_
      simp -implicitDefEqProofs only [go_sem]
      refine callX [] (impl_OpenShare (foX code).1 (by omega)) (by simp -implicitDefEqProofs only [go_sem]) ?_
      simp -implicitDefEqProofs only [go_sem]
      refine callX [] (laws_ascends (visitTo (vj code) 64) (by omega) visit_asc) (by simp -implicitDefEqProofs only [go_sem]) ?_
      simp -implicitDefEqProofs only [go_sem]
      refine callX [] (laws_ascends (seeZ (foX code).1 (icC code) (csF code)) (by unfold seeZ; omega) see_asc) (by simp -implicitDefEqProofs only [go_sem]) ?_
      simp -implicitDefEqProofs only [go_sem]
      refine callX [] (impl_IsCell (foX code).1 (icC code) (by omega)) (by simp -implicitDefEqProofs only [go_sem]) ?_
      simp -implicitDefEqProofs only [go_sem]
      refine ⟨fun hc => ?_, fun hc => ?_⟩
      · refine callX [] (laws_contains (seeZ (foX code).1 (icC code) (csF code)) (icC code) (by unfold seeZ; omega)) (by simp -implicitDefEqProofs only [go_sem]) ?_
        simp -implicitDefEqProofs only [go_sem]
        refine ⟨fun _ => ⟨fun _ => ⟨fun _ => ⟨fun _ => ⟨fun _ => ⟨fun _ => hO.2, fun k => k hO.1⟩, fun k => k hS.2⟩, fun k => k hS.1⟩, fun k => k hL.2⟩, fun k => k hL.1⟩, fun k => absurd (k.symm.trans (dec_beqM ?_)) (by decide)⟩
        exact ⟨fun h => see_self.1 ⟨hc, h⟩, fun h => (see_self.2 h).2⟩
      · refine callX [] (laws_contains (seeZ (foX code).1 (icC code) (csF code)) (icC code) (by unfold seeZ; omega)) (by simp -implicitDefEqProofs only [go_sem]) ?_
        simp -implicitDefEqProofs only [go_sem]
        refine ⟨fun _ => ⟨fun _ => ⟨fun _ => ⟨fun _ => ⟨fun _ => ⟨fun _ => hO.2, fun k => k hO.1⟩, fun k => k hS.2⟩, fun k => k hS.1⟩, fun k => k hL.2⟩, fun k => k hL.1⟩, fun k => ?_⟩
        rw [decide_eq_false (fun h => hc (see_self.2 h).1)] at k
        cases k
end Go.Abs
