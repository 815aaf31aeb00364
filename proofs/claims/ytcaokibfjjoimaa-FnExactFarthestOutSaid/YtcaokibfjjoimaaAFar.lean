/- How far out a journal goes. -/
import Derived.Test.YtcaokibfjjoimaaAWay
namespace Go.Abs
open Go.RowKit Go.Proofs
set_option linter.unusedVariables false
set_option linter.unusedSimpArgs false
set_option maxRecDepth 100000

noncomputable def farTo (x : DLand) (b : Int) (l : List DPage) : Int := l.foldl (fun n p => max n (daysZ x b p.cell)) (-1)
theorem farTo_S {x : DLand} {b : Int} {l : List DPage} {i : Nat} {p : DPage} (h : l[i]? = some p) : farTo x b (l.take (i + 1)) = max (farTo x b (l.take i)) (daysZ x b p.cell) := by
  simp only [farTo, List.take_add_one, h, Option.toList_some, List.foldl_append, List.foldl_cons, List.foldl_nil]
theorem impl_FarthestOut (x : DLand) (b : Int) (l : List DPage) (hx : x.cells.length ≤ 1048576) (hl : l.length ≤ 1048576) : SC Try.prog 55 [.ag x.ats, .at (.v (.int .i64 b)), .at (.im 4 (l.map DPage.row))] [] (.at (.v (.int .i64 (farTo x b l)))) [] := by
  refine SC.of_V mixed Try.func55 (by kernel_rfl) rfl Try.results55 _ Try.ntmps55 (by simp) ?_
  simp -implicitDefEqProofs only [go_sem]
  refine T.loopW mixed [1, 3, 7, 10, 11, 12] (fun mm vs es => ∃ (i : Nat), vs = [.at (.v (.int .i64 b)), .at (.bx 100 0 0), .at (.v (.int .i64 (farTo x b (l.take i)))), .at (.im 4 (l.map DPage.row)), .at (.v (.int .i64 l.length)), .at (.v (.int .i64 i))] ∧ es = [.box 0 x.ats] ∧ mm + i = l.length) l.length ?_ ?_
  · simp -implicitDefEqProofs only [go_sem]; exact ⟨0, ⟨rfl, rfl⟩, by omega⟩
  rintro n _ _ ⟨i, rfl, rfl, hn⟩
  simp -implicitDefEqProofs only [go_sem]
  refine ⟨fun h => ?_, fun h => by rw [List.take_of_length_le (by omega)]⟩
  refine ⟨by omega, fun p hp => ?_⟩
  refine callX [] (impl_Days x b p.cell hx) (by simp -implicitDefEqProofs only [go_sem]) ?_
  simp -implicitDefEqProofs only [go_sem]
  rw [wrap64 (by omega) (by omega)]
  exact ⟨n - 1, by omega, i + 1, ⟨(farTo_S hp).symm, rfl⟩, by omega⟩
theorem spec_FarthestOut (x : DLand) (b : Int) (l : List DPage) (hx : x.cells.length ≤ 1048576) (hl : l.length ≤ 1048576) : SC Try.prog 54 [.ag x.ats, .at (.v (.int .i64 b)), .at (.im 4 (l.map DPage.row))] [] (.at (.v (.int .i64 (farTo x b l)))) [] := by
  refine SC.of_V mixed Try.func54 (by kernel_rfl) rfl Try.results54 _ Try.ntmps54 (by simp) ?_
  simp -implicitDefEqProofs only [go_sem]
  refine T.loopW mixed [1, 2, 3, 7, 8] (fun mm vs es => ∃ (i : Nat), vs = [.at (.v (.int .i64 b)), .at (.im 4 (l.map DPage.row)), .at (.bx 100 0 0), .at (.v (.int .i64 (farTo x b (l.take i)))), .at (.v (.int .i64 i))] ∧ es = [.box 0 x.ats] ∧ mm + i = l.length) l.length ?_ ?_
  · simp -implicitDefEqProofs only [go_sem]; exact ⟨0, ⟨rfl, rfl⟩, by omega⟩
  rintro n _ _ ⟨i, rfl, rfl, hn⟩
  simp -implicitDefEqProofs only [go_sem]
  refine ⟨fun h => ?_, fun h => by rw [List.take_of_length_le (by omega)]⟩
  refine ⟨true, by decide +kernel, ?_⟩
  simp -implicitDefEqProofs only [go_sem]
  refine ⟨by omega, fun p hp => ?_⟩
  refine callXQ [] (spec_Days x b p.cell hx) (by simp -implicitDefEqProofs only [go_sem]) ?_
  simp -implicitDefEqProofs only [go_sem]
  refine callXQ [] (spec_Max (farTo x b (l.take i)) (daysZ x b p.cell)) (by simp -implicitDefEqProofs only [go_sem]) ?_
  simp -implicitDefEqProofs only [go_sem]
  rw [wrap64 (by omega) (by omega)]
  exact ⟨n - 1, by omega, i + 1, ⟨(farTo_S hp).symm, rfl⟩, by omega⟩
end Go.Abs
