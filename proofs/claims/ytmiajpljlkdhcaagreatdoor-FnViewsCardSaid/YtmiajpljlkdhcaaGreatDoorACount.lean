/- Counting: storms, events, open cells, and the cells of a journal. -/
import Derived.Test.YtmiajpljlkdhcaaGreatDoorALand
namespace Go.Abs
open Go.RowKit Go.Proofs
set_option linter.unusedVariables false
set_option linter.unusedSimpArgs false
set_option maxRecDepth 100000

def stormZ (l : List Bool) : Int := sumL (fun b => if b = true then 1 else 0) l
theorem stormZ_bound (l : List Bool) : 0 ≤ stormZ l ∧ stormZ l ≤ l.length := by
  have := sum_all (f := fun b : Bool => if b = true then 1 else 0) (l := l) (B := 1) (fun c _ => by split <;> omega)
  unfold stormZ; omega
theorem spec_CountStorms (l : List Bool) (hl : l.length ≤ 1048576) : SC Tryz.prog 125 [.at (.im 1 (l.map boolRow))] [] (.at (.v (.int .i64 (stormZ l)))) [] := by
  refine SC.of_V mixed Tryz.func125 (by kernel_rfl) rfl Tryz.results125 _ Tryz.ntmps125 (by simp) ?_
  simp -implicitDefEqProofs only [go_sem]
  refine T.loopW mixed [0, 3, 4] (fun mm vs es => ∃ (i : Nat), vs = [.at (.im 1 (l.map boolRow)), .at (.v (.int .i64 (sumT (fun b => if b = true then 1 else 0) l i))), .at (.v (.int .i64 i))] ∧ es = [] ∧ mm + i = l.length) l.length ?_ ?_
  · simp -implicitDefEqProofs only [go_sem]; exact ⟨0, ⟨sum0.symm, rfl⟩, by omega⟩
  rintro n _ _ ⟨i, rfl, rfl, hn⟩
  simp -implicitDefEqProofs only [go_sem]
  have hb := sum_bound (f := fun b : Bool => if b = true then 1 else 0) (l := l) (B := 1) (i := i) (fun c _ => by split <;> omega) (by omega)
  refine ⟨fun h => ⟨by omega, fun c hc => ⟨fun e => ?_, fun e => ?_⟩⟩, fun h => sumEnd h⟩
  · rw [wrap64 (by omega) (by omega), wrap64 (by omega) (by omega)]
    exact ⟨n - 1, by omega, i + 1, ⟨by rw [sumS hc, if_pos e], rfl⟩, by omega⟩
  · rw [wrap64 (by omega) (by omega)]
    exact ⟨n - 1, by omega, i + 1, ⟨by rw [sumS hc, if_neg (by simp [e])]; simp, rfl⟩, by omega⟩
def stormShareZ (l : List Bool) : Int := if l.length = 0 then 0 else (100 * stormZ l).tdiv l.length
def eventsZ (l : List DEvent) (k : Int) : Int := sumL (fun e => if e.kind = k then 1 else 0) l
noncomputable def openShareZ (x : DLand) : Int := if x.Ok then (100 * (x.cells.length - sumL (fun c => if c = 2 then 1 else 0) x.cells)).tdiv x.cells.length else 0
/-- The cells that a journal names, so far. -/
noncomputable def visitTo (l : List DPage) (c : Nat) : List Int := ((List.range c).filter fun (c : Nat) => decide (∃ p ∈ l, p.cell = (c : Int))).map fun (c : Nat) => (c : Int)
theorem visitTo_yes {l : List DPage} {c i : Nat} {p : DPage} (hp : l[i]? = some p) (h : p.cell = c) : visitTo l (c + 1) = visitTo l c ++ [(c : Int)] := by
  have : ∃ p ∈ l, p.cell = (c : Int) := ⟨p, mem_get hp, h⟩
  simp [visitTo, List.range_succ, this]
theorem visitTo_no {l : List DPage} {c : Nat} (h : Each (fun _ p => p.cell ≠ (c : Int)) l) : visitTo l (c + 1) = visitTo l c := by
  have : ¬ ∃ p ∈ l, p.cell = (c : Int) := by
    rintro ⟨p, hp, he⟩
    obtain ⟨i, hi⟩ := List.getElem?_of_mem hp
    exact h i p hi he
  simp only [visitTo, List.range_succ, List.filter_append, List.filter_cons, this, decide_false, List.filter_nil, List.append_nil, Bool.false_eq_true, if_false]
theorem visitTo_len {l : List DPage} {c : Nat} : (visitTo l c).length ≤ c := by
  have := List.length_filter_le (fun (c : Nat) => decide (∃ p ∈ l, p.cell = (c : Int))) (List.range c)
  simp [visitTo] at *; omega
theorem room8 {n : Nat} (h : n ≤ 1048576) : Room n 8 := by unfold Room; omega
end Go.Abs
