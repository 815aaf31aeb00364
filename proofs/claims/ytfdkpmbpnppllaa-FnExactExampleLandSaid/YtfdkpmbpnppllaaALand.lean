/- Lands, cells, and how far cells are from each other. -/
import Derived.Test.YtfdkpmbpnppllaaABase
namespace Go.Abs
open Go.RowKit Go.Proofs
set_option linter.unusedVariables false
set_option linter.unusedSimpArgs false
set_option maxRecDepth 100000

def okCell (_ : Nat) (c : Int) : Prop := 0 ≤ c ∧ c ≤ 2
/-- A land is one. -/
def DLand.Ok (x : DLand) : Prop := (1 ≤ x.w ∧ x.w ≤ 8) ∧ (1 ≤ x.h ∧ x.h ≤ 8) ∧ (x.cells.length : Int) = x.w * x.h ∧ Each (fun _ n => 0 ≤ n ∧ n ≤ 2) x.cells
noncomputable instance (x : DLand) : Decidable x.Ok := Classical.propDecidable _
def DLand.Cell (x : DLand) (n : Int) : Prop := x.Ok ∧ 0 ≤ n ∧ n < x.cells.length
noncomputable instance (x : DLand) (n : Int) : Decidable (x.Cell n) := Classical.propDecidable _
/-- What stands at a cell. -/
def DLand.at (x : DLand) (n : Int) : Int := x.cells.getD n.toNat 0
def DLand.Open (x : DLand) (n : Int) : Prop := x.Cell n ∧ x.at n ≠ 2
noncomputable instance (x : DLand) (n : Int) : Decidable (x.Open n) := Classical.propDecidable _
theorem mul_small {a b : Int} (h1 : 1 ≤ a ∧ a ≤ 8) (h2 : 1 ≤ b ∧ b ≤ 8) : 1 ≤ a * b ∧ a * b ≤ 64 ∧ a ≤ a * b := by
  obtain ⟨h1, h3⟩ := h1
  have : a = 1 ∨ a = 2 ∨ a = 3 ∨ a = 4 ∨ a = 5 ∨ a = 6 ∨ a = 7 ∨ a = 8 := by omega
  rcases this with rfl | rfl | rfl | rfl | rfl | rfl | rfl | rfl <;> omega
theorem DLand.Ok.len {x : DLand} (h : x.Ok) : 1 ≤ x.cells.length ∧ x.cells.length ≤ 64 := by
  have := mul_small h.1 h.2.1
  have := h.2.2.1
  omega
theorem at_get {x : DLand} {n : Int} {c : Int} (h : x.cells[n.toNat]? = some c) : x.at n = c := by
  rw [DLand.at, List.getD_eq_getElem?_getD, h]; rfl


/-- The steps between two cells, where nothing stands in the way. -/
def DLand.apart (x : DLand) (a b : Int) : Int := (max (a % x.w - b % x.w) (b % x.w - a % x.w)) + max (a / x.w - b / x.w) (b / x.w - a / x.w)
noncomputable def DLand.apartZ (x : DLand) (a b : Int) : Int := if x.Cell a ∧ x.Cell b then x.apart a b else -1
theorem DLand.Cell.div {x : DLand} {a : Int} (h : x.Cell a) : 0 ≤ a % x.w ∧ a % x.w < x.w ∧ 0 ≤ a / x.w ∧ a / x.w < x.h ∧ a.tmod x.w = a % x.w ∧ a.tdiv x.w = a / x.w ∧ x.w ≠ 0 := by
  obtain ⟨⟨h1, h2, h3, _⟩, h4, h5⟩ := h
  refine ⟨Int.emod_nonneg _ (by omega), Int.emod_lt_of_pos _ (by omega), Int.ediv_nonneg h4 (by omega), ?_, Int.tmod_eq_emod_of_nonneg h4, Int.tdiv_eq_ediv_of_nonneg h4, by omega⟩
  exact Int.ediv_lt_of_lt_mul (by omega) (by rw [Int.mul_comm]; omega)
theorem abs_max {a b : Int} : max (a - b) (-(a - b)) = max (a - b) (b - a) := by omega
end Go.Abs
