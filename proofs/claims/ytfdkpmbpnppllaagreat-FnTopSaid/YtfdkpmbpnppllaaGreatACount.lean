/- Counting: storms, events, open cells, and the cells of a journal. -/
import Derived.Test.YtfdkpmbpnppllaaGreatALand
namespace Go.Abs
open Go.RowKit Go.Proofs
set_option linter.unusedVariables false
set_option linter.unusedSimpArgs false
set_option maxRecDepth 100000

def stormZ (l : List Bool) : Int := sumL (fun b => if b = true then 1 else 0) l
theorem stormZ_bound (l : List Bool) : 0 ≤ stormZ l ∧ stormZ l ≤ l.length := by
  have := sum_all (f := fun b : Bool => if b = true then 1 else 0) (l := l) (B := 1) (fun c _ => by split <;> omega)
  unfold stormZ; omega
theorem impl_CountStorms (l : List Bool) (hl : l.length ≤ 1048576) : SC Tryz.prog 109 [.at (.im 1 (l.map boolRow))] [] (.at (.v (.int .i64 (stormZ l)))) [] := by
  refine SC.of_V mixed Tryz.func109 (by kernel_rfl) rfl Tryz.results109 _ Tryz.ntmps109 (by simp) ?_
  simp -implicitDefEqProofs only [go_sem]
  refine T.loopW mixed [3, 6, 7, 8] (fun mm vs es => ∃ (i : Nat), vs = [.at (.v (.int .i64 (sumT (fun b => if b = true then 1 else 0) l i))), .at (.im 1 (l.map boolRow)), .at (.v (.int .i64 l.length)), .at (.v (.int .i64 i))] ∧ es = [] ∧ mm + i = l.length) l.length ?_ ?_
  · simp -implicitDefEqProofs only [go_sem]; exact ⟨0, ⟨sum0.symm, rfl⟩, by omega⟩
  rintro n _ _ ⟨i, rfl, rfl, hn⟩
  simp -implicitDefEqProofs only [go_sem]
  have hb := sum_bound (f := fun b : Bool => if b = true then 1 else 0) (l := l) (B := 1) (i := i) (fun c _ => by split <;> omega) (by omega)
  refine ⟨fun h => ⟨by omega, fun c hc => ⟨fun e => ?_, fun e => ?_⟩⟩, fun h => sumEnd h⟩
  · rw [wrap64 (by omega) (by omega), wrap64 (by omega) (by omega)]
    exact ⟨n - 1, by omega, i + 1, ⟨by rw [sumS hc, if_pos e], rfl⟩, by omega⟩
  · rw [wrap64 (by omega) (by omega)]
    exact ⟨n - 1, by omega, i + 1, ⟨by rw [sumS hc, if_neg (by simp [e])]; simp, rfl⟩, by omega⟩
theorem spec_CountStorms (l : List Bool) (hl : l.length ≤ 1048576) : SC Tryz.prog 163 [.at (.im 1 (l.map boolRow))] [] (.at (.v (.int .i64 (stormZ l)))) [] := by
  refine SC.of_V mixed Tryz.func163 (by kernel_rfl) rfl Tryz.results163 _ Tryz.ntmps163 (by simp) ?_
  simp -implicitDefEqProofs only [go_sem]
  refine T.loopW mixed [0, 3, 4] (fun mm vs es => ∃ (i : Nat), vs = [.at (.im 1 (l.map boolRow)), .at (.v (.int .i64 (sumT (fun b => if b = true then 1 else 0) l i))), .at (.v (.int .i64 i))] ∧ es = [] ∧ mm + i = l.length) l.length ?_ ?_
  · simp -implicitDefEqProofs only [go_sem]; exact ⟨0, ⟨sum0.symm, rfl⟩, by omega⟩
  rintro n _ _ ⟨i, rfl, rfl, hn⟩
  simp -implicitDefEqProofs only [go_sem]
  have hb := sum_bound (f := fun b : Bool => if b = true then 1 else 0) (l := l) (B := 1) (i := i) (fun c _ => by split <;> omega) (by omega)
  refine ⟨fun h => ⟨by omega, fun c hc => ⟨fun e => ?_, fun e => ?_⟩⟩, fun h => sumEnd h⟩
  · rw [wrap64 (by omega) (by omega), wrap64 (by omega) (by omega)]
    exact ⟨n - 1, by omega, i + 1, ⟨by rw [sumS hc, if_pos e], rfl⟩, by omega⟩
  · rw [wrap64 (by omega) (by omega)]
    exact ⟨n - 1, by omega, i + 1, ⟨by rw [sumS hc, if_neg (by simp [e])]; simp, rfl⟩, by omega⟩
def stormShareZ (l : List Bool) : Int := if l.length = 0 then 0 else (100 * stormZ l).tdiv l.length
theorem impl_StormShare (l : List Bool) (hl : l.length ≤ 1048576) : SC Tryz.prog 50 [.at (.im 1 (l.map boolRow))] [] (.at (.v (.int .i64 (stormShareZ l)))) [] := by
  refine SC.of_V mixed Tryz.func50 (by kernel_rfl) rfl Tryz.results50 _ Tryz.ntmps50 (by simp) ?_
  simp -implicitDefEqProofs only [go_sem]
  refine ⟨fun h => by rw [stormShareZ, if_pos (by omega)], fun h => ?_⟩
  refine callX [] (impl_CountStorms l hl) (by simp -implicitDefEqProofs only [go_sem]) ?_
  simp -implicitDefEqProofs only [go_sem]
  have := stormZ_bound l
  refine ⟨h, ?_⟩
  have h0 := Int.tdiv_nonneg (a := 100 * stormZ l) (b := l.length) (by omega) (by omega)
  have h1 := Int.tdiv_le_self (a := 100 * stormZ l) (l.length : Int) (by omega)
  rw [wrap64 (x := 100 * stormZ l) (by omega) (by omega), wrap64 (by omega) (by omega), stormShareZ, if_neg (by omega)]
def eventsZ (l : List DEvent) (k : Int) : Int := sumL (fun e => if e.kind = k then 1 else 0) l
theorem impl_CountEvents (l : List DEvent) (k : Int) (hl : l.length ≤ 1048576) : SC Tryz.prog 27 [.at (.im 3 (l.map DEvent.row)), .at (.v (.int .i64 k))] [] (.at (.v (.int .i64 (eventsZ l k)))) [] := by
  refine SC.of_V mixed Tryz.func27 (by kernel_rfl) rfl Tryz.results27 _ Tryz.ntmps27 (by simp) ?_
  simp -implicitDefEqProofs only [go_sem]
  refine T.loopW mixed [1, 5, 8, 9, 10] (fun mm vs es => ∃ (i : Nat), vs = [.at (.v (.int .i64 k)), .at (.v (.int .i64 (sumT (fun e => if e.kind = k then 1 else 0) l i))), .at (.im 3 (l.map DEvent.row)), .at (.v (.int .i64 l.length)), .at (.v (.int .i64 i))] ∧ es = [] ∧ mm + i = l.length) l.length ?_ ?_
  · simp -implicitDefEqProofs only [go_sem]; exact ⟨0, ⟨sum0.symm, rfl⟩, by omega⟩
  rintro n _ _ ⟨i, rfl, rfl, hn⟩
  simp -implicitDefEqProofs only [go_sem]
  have hb := sum_bound (f := fun e : DEvent => if e.kind = k then 1 else 0) (l := l) (B := 1) (i := i) (fun c _ => by split <;> omega) (by omega)
  refine ⟨fun h => ⟨by omega, fun c hc => ⟨fun e => ?_, fun e => ?_⟩⟩, fun h => sumEnd h⟩
  · rw [wrap64 (by omega) (by omega), wrap64 (by omega) (by omega)]
    exact ⟨n - 1, by omega, i + 1, ⟨by rw [sumS hc, if_pos e], rfl⟩, by omega⟩
  · rw [wrap64 (by omega) (by omega)]
    exact ⟨n - 1, by omega, i + 1, ⟨by rw [sumS hc, if_neg e]; simp, rfl⟩, by omega⟩
noncomputable def openShareZ (x : DLand) : Int := if x.Ok then (100 * (x.cells.length - sumL (fun c => if c = 2 then 1 else 0) x.cells)).tdiv x.cells.length else 0
theorem impl_OpenShare (x : DLand) (hl : x.cells.length ≤ 1048576) : SC Tryz.prog 52 [.ag x.ats] [] (.at (.v (.int .i64 (openShareZ x)))) [] := by
  refine SC.of_V mixed Tryz.func52 (by kernel_rfl) rfl Tryz.results52 _ Tryz.ntmps52 (by simp) ?_
  simp -implicitDefEqProofs only [go_sem]
  refine callX [] (impl_IsLand x hl) (by simp -implicitDefEqProofs only [go_sem]) ?_
  simp -implicitDefEqProofs only [go_sem]
  refine ⟨fun h => by rw [openShareZ, if_neg h], fun h => ?_⟩
  refine ⟨some [], by decide +kernel, ?_⟩
  simp -implicitDefEqProofs only [go_sem]
  refine callXQ [] (impl_CountCells x 2 hl) (by simp -implicitDefEqProofs only [go_sem]) ?_
  simp -implicitDefEqProofs only [go_sem]
  have hk := h.len
  have hb := sum_all (f := fun c : Int => if c = 2 then 1 else 0) (l := x.cells) (B := 1) (fun c _ => by split <;> omega)
  rw [if_pos h, openShareZ, if_pos h]
  generalize sumL (fun c : Int => if c = 2 then 1 else 0) x.cells = s at *
  refine ⟨by omega, ?_⟩
  have h0 := Int.tdiv_nonneg (a := 100 * (x.cells.length - s)) (b := x.cells.length) (by omega) (by omega)
  have h1 := Int.tdiv_le_self (a := 100 * (x.cells.length - s)) (x.cells.length : Int) (by omega)
  rw [wrap64 (x := x.cells.length - s) (by omega) (by omega), wrap64 (x := 100 * (x.cells.length - s)) (by omega) (by omega), wrap64 (by omega) (by omega)]
/-- The cells that a journal names, so far. -/
noncomputable def visitTo (l : List DPage) (c : Nat) : List Int := ((List.range c).filter fun (c : Nat) => decide (∃ p ∈ l, p.cell = (c : Int))).map fun (c : Nat) => (c : Int)
theorem visitTo_yes {l : List DPage} {c i : Nat} {p : DPage} (hp : l[i]? = some p) (h : p.cell = c) : visitTo l (c + 1) = visitTo l c ++ [(c : Int)] := by
  have : ∃ p ∈ l, p.cell = (c : Int) := ⟨p, mem_get hp, h⟩
  simp [visitTo, List.range_succ, this]
theorem visitTo_no {l : List DPage} {c : Nat} (h : Each (fun _ p => p.cell ≠ (c : Int)) l) : visitTo l (c + 1) = visitTo l c := by
  have : ¬ ∃ p ∈ l, p.cell = (c : Int) := by
    rintro ⟨p, hp, he⟩
    obtain ⟨i, hi⟩ := List.getElem?_of_mem hp
    exact h i p hi he
  simp only [visitTo, List.range_succ, List.filter_append, List.filter_cons, this, decide_false, List.filter_nil, List.append_nil, Bool.false_eq_true, if_false]
theorem visitTo_len {l : List DPage} {c : Nat} : (visitTo l c).length ≤ c := by
  have := List.length_filter_le (fun (c : Nat) => decide (∃ p ∈ l, p.cell = (c : Int))) (List.range c)
  simp [visitTo] at *; omega
theorem room8 {n : Nat} (h : n ≤ 1048576) : Room n 8 := by unfold Room; omega
theorem impl_Visited (l : List DPage) (hl : l.length ≤ 1048576) : SC Tryz.prog 41 [.at (.im 4 (l.map DPage.row))] [] (.at (.fr 1 ((visitTo l 64).map intRow))) [] := by
  refine SC.of_W mixed Tryz.func41 (by kernel_rfl) rfl Tryz.results41 _ Tryz.ntmps41 (by simp) ?_
  simp -implicitDefEqProofs only [go_sem]
  refine T.loopW mixed [0, 3, 8] (fun mm vs es => ∃ (c : Nat), vs = [.at (.im 4 (l.map DPage.row)), .at (.ow 100 0 1 ((visitTo l c).length)), .at (.v (.int .i64 c))] ∧ es = [.arr 0 1 ((visitTo l c).map intRow)] ∧ mm + c = 64) 64 ?_ ?_
  · simp -implicitDefEqProofs only [go_sem]; exact ⟨0, by simp [visitTo]⟩
  rintro n _ _ ⟨c, rfl, rfl, hn⟩
  simp -implicitDefEqProofs only [go_sem]
  refine ⟨fun hc => ?_, fun hc => ?_⟩
  · skip
    refine T.loopW mixed [0, 3, 4, 8, 11, 12, 13] (fun mm vs es => ∃ (i : Nat), vs = [.at (.im 4 (l.map DPage.row)), .at (.ow 100 0 1 ((visitTo l c).length)), .at (.v (.int .i64 c)), .at (.v (.int .i64 c)), .at (.im 4 (l.map DPage.row)), .at (.v (.int .i64 l.length)), .at (.v (.int .i64 i))] ∧ es = [.arr 0 1 ((visitTo l c).map intRow)] ∧ mm + i = l.length ∧ EachTo (fun _ p => p.cell ≠ (c : Int)) l i) l.length ?_ ?_
    · simp -implicitDefEqProofs only [go_sem]; exact ⟨0, by omega, by omega, each0⟩
    rintro m _ _ ⟨i, rfl, rfl, hm, hi⟩
    simp -implicitDefEqProofs only [go_sem]
    refine ⟨fun h => ⟨by omega, fun p hp => ?_⟩, fun h => ?_⟩
    · have hv := visitTo_len (l := l) (c := c)
      refine ⟨fun e => ⟨room8 (by omega), n - 1, by omega, c + 1, ⟨by rw [visitTo_yes hp e]; simp, by rw [wrap64 (by omega) (by omega)]; rfl⟩, by rw [visitTo_yes hp e]; simp [intRow], by omega⟩, fun e => ⟨m - 1, by omega, i + 1, by rw [wrap64 (by omega) (by omega)]; rfl, by omega, eachS hi hp e⟩⟩
    · exact ⟨n - 1, by omega, c + 1, ⟨by rw [visitTo_no (eachEnd hi h)], by rw [wrap64 (by omega) (by omega)]; rfl⟩, by rw [visitTo_no (eachEnd hi h)], by omega⟩
  · have : c = 64 := by omega
    subst this
    exact ⟨rfl, rfl⟩
end Go.Abs
