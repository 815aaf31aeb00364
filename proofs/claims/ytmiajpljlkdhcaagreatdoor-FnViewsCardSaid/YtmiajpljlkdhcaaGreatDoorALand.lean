/- Lands, cells, and how far cells are from each other. -/
import Derived.Test.YtmiajpljlkdhcaaGreatDoorABase
namespace Go.Abs
open Go.RowKit Go.Proofs
set_option linter.unusedVariables false
set_option linter.unusedSimpArgs false
set_option maxRecDepth 100000

def okCell (_ : Nat) (c : Int) : Prop := 0 ≤ c ∧ c ≤ 2
/-- A land is one. -/
def DLand.Ok (x : DLand) : Prop := (1 ≤ x.w ∧ x.w ≤ 8) ∧ (1 ≤ x.h ∧ x.h ≤ 8) ∧ (x.cells.length : Int) = x.w * x.h ∧ Each (fun _ n => 0 ≤ n ∧ n ≤ 2) x.cells
noncomputable instance (x : DLand) : Decidable x.Ok := Classical.propDecidable _
def DLand.Cell (x : DLand) (n : Int) : Prop := x.Ok ∧ 0 ≤ n ∧ n < x.cells.length
noncomputable instance (x : DLand) (n : Int) : Decidable (x.Cell n) := Classical.propDecidable _
/-- What stands at a cell. -/
def DLand.at (x : DLand) (n : Int) : Int := x.cells.getD n.toNat 0
def DLand.Open (x : DLand) (n : Int) : Prop := x.Cell n ∧ x.at n ≠ 2
noncomputable instance (x : DLand) (n : Int) : Decidable (x.Open n) := Classical.propDecidable _
theorem mul_small {a b : Int} (h1 : 1 ≤ a ∧ a ≤ 8) (h2 : 1 ≤ b ∧ b ≤ 8) : 1 ≤ a * b ∧ a * b ≤ 64 ∧ a ≤ a * b := by
  obtain ⟨h1, h3⟩ := h1
  have : a = 1 ∨ a = 2 ∨ a = 3 ∨ a = 4 ∨ a = 5 ∨ a = 6 ∨ a = 7 ∨ a = 8 := by omega
  rcases this with rfl | rfl | rfl | rfl | rfl | rfl | rfl | rfl <;> omega
theorem DLand.Ok.len {x : DLand} (h : x.Ok) : 1 ≤ x.cells.length ∧ x.cells.length ≤ 64 := by
  have := mul_small h.1 h.2.1
  have := h.2.2.1
  omega
theorem at_get {x : DLand} {n : Int} {c : Int} (h : x.cells[n.toNat]? = some c) : x.at n = c := by
  rw [DLand.at, List.getD_eq_getElem?_getD, h]; rfl

theorem impl_IsLand (x : DLand) (hl : x.cells.length ≤ 1048576) : SC Tryz.prog 57 [.ag x.ats] [] (.at (.v (.bool (decide x.Ok)))) [] := by
  refine SC.of_V mixed Tryz.func57 (by kernel_rfl) rfl Tryz.results57 _ Tryz.ntmps57 (by simp) ?_
  simp -implicitDefEqProofs only [go_sem]
  refine callX [] (impl_InRange x.w 1 8) (by simp -implicitDefEqProofs only [go_sem]) ?_
  simp -implicitDefEqProofs only [go_sem]
  refine ⟨fun h1 => ?_, fun h1 => dec_f (fun h => h1 h.1)⟩
  refine callX [] (impl_InRange x.h 1 8) (by simp -implicitDefEqProofs only [go_sem]) ?_
  simp -implicitDefEqProofs only [go_sem]
  refine ⟨fun h2 => ?_, fun h2 => dec_f (fun h => h2 h.2.1)⟩
  have := mul_small h1 h2
  rw [wrap64 (by omega) (by omega)]
  refine ⟨fun h3 => ?_, fun h3 => dec_f (fun h => h3 h.2.2.1)⟩
  refine callX [] (impl_allIn x.cells 0 2 hl) (by simp -implicitDefEqProofs only [go_sem]) ?_
  simp -implicitDefEqProofs only [go_sem]
  exact decide_eq_decide.2 ⟨fun h => ⟨h1, h2, h3, h⟩, fun h => h.2.2.2⟩
theorem spec_IsLand (x : DLand) (hl : x.cells.length ≤ 1048576) : SC Tryz.prog 100 [.ag x.ats] [] (.at (.v (.bool (decide x.Ok)))) [] := by
  refine SC.of_V mixed Tryz.func100 (by kernel_rfl) rfl Tryz.results100 _ Tryz.ntmps100 (by simp) ?_
  simp -implicitDefEqProofs only [go_sem]
  refine callX [] (spec_l1In x.w 1 8) (by simp -implicitDefEqProofs only [go_sem]) ?_
  simp -implicitDefEqProofs only [go_sem]
  refine ⟨fun h1 => ?_, fun h1 => dec_f (fun h => h1 h.1)⟩
  refine callX [] (spec_l1In x.h 1 8) (by simp -implicitDefEqProofs only [go_sem]) ?_
  simp -implicitDefEqProofs only [go_sem]
  refine ⟨fun h2 => ?_, fun h2 => dec_f (fun h => h2 h.2.1)⟩
  have := mul_small h1 h2
  rw [wrap64 (by omega) (by omega)]
  refine ⟨fun h3 => dec_f (fun h => h3 h.2.2.1), fun h3 => ?_⟩
  refine T.loopW mixed [1, 3] (fun mm vs es => ∃ (i : Nat), vs = [.at (.bx 100 0 0), .at (.v (.int .i64 i))] ∧ es = [.box 0 x.ats] ∧ mm + i = x.cells.length ∧ EachTo (fun _ n => 0 ≤ n ∧ n ≤ 2) x.cells i) x.cells.length ?_ ?_
  · simp -implicitDefEqProofs only [go_sem]; exact ⟨0, rfl, by omega, each0⟩
  rintro n _ _ ⟨i, rfl, rfl, hn, hi⟩
  simp -implicitDefEqProofs only [go_sem]
  refine ⟨fun h => ⟨by omega, fun c hc => ?_⟩, fun h => dec_t ⟨h1, h2, h3, eachEnd hi h⟩⟩
  refine callX [] (spec_l1In c 0 2) (by simp -implicitDefEqProofs only [go_sem]) ?_
  simp -implicitDefEqProofs only [go_sem]
  refine ⟨fun hk => dec_f fun h => eachNot hc hk h.2.2.2, fun hk => ?_⟩
  rw [wrap64 (by omega) (by omega)]
  exact ⟨n - 1, by omega, i + 1, rfl, by omega, eachS hi hc hk⟩
theorem impl_IsCell (x : DLand) (n : Int) (hl : x.cells.length ≤ 1048576) : SC Tryz.prog 39 [.ag x.ats, .at (.v (.int .i64 n))] [] (.at (.v (.bool (decide (x.Cell n))))) [] := by
  refine SC.of_V mixed Tryz.func39 (by kernel_rfl) rfl Tryz.results39 _ Tryz.ntmps39 (by simp) ?_
  simp -implicitDefEqProofs only [go_sem]
  refine callX [] (impl_IsLand x hl) (by simp -implicitDefEqProofs only [go_sem]) ?_
  simp -implicitDefEqProofs only [go_sem]
  refine ⟨fun h1 => ?_, fun h1 => dec_f (fun h => h1 h.1)⟩
  rw [wrap64 (by omega) (by omega)]
  refine callX [] (impl_InRange n 0 (x.cells.length - 1)) (by simp -implicitDefEqProofs only [go_sem]) ?_
  simp -implicitDefEqProofs only [go_sem]
  refine decide_eq_decide.2 ⟨fun h => ⟨h1, h.1, by omega⟩, fun h => ⟨h.2.1, by have := h.2.2; omega⟩⟩
theorem spec_IsCell (x : DLand) (n : Int) (hl : x.cells.length ≤ 1048576) : SC Tryz.prog 89 [.ag x.ats, .at (.v (.int .i64 n))] [] (.at (.v (.bool (decide (x.Cell n))))) [] := by
  refine SC.of_V mixed Tryz.func89 (by kernel_rfl) rfl Tryz.results89 _ Tryz.ntmps89 (by simp) ?_
  simp -implicitDefEqProofs only [go_sem]
  refine callX [] (spec_IsLand x hl) (by simp -implicitDefEqProofs only [go_sem]) ?_
  simp -implicitDefEqProofs only [go_sem]
  refine ⟨fun h1 => ?_, fun h1 => dec_f (fun h => h1 h.1)⟩
  rw [wrap64 (by omega) (by omega)]
  refine callX [] (spec_l1In n 0 (x.cells.length - 1)) (by simp -implicitDefEqProofs only [go_sem]) ?_
  simp -implicitDefEqProofs only [go_sem]
  refine decide_eq_decide.2 ⟨fun h => ⟨h1, h.1, by omega⟩, fun h => ⟨h.2.1, by have := h.2.2; omega⟩⟩
theorem spec_IsOpen (x : DLand) (n : Int) (hl : x.cells.length ≤ 1048576) : SC Tryz.prog 76 [.ag x.ats, .at (.v (.int .i64 n))] [] (.at (.v (.bool (decide (x.Open n))))) [] := by
  refine SC.of_V mixed Tryz.func76 (by kernel_rfl) rfl Tryz.results76 _ Tryz.ntmps76 (by simp) ?_
  simp -implicitDefEqProofs only [go_sem]
  refine callX [] (spec_IsCell x n hl) (by simp -implicitDefEqProofs only [go_sem]) ?_
  simp -implicitDefEqProofs only [go_sem]
  refine ⟨fun h1 => ⟨⟨h1.2.1, h1.2.2⟩, fun c hc => ?_⟩, fun h1 => dec_f (fun h => h1 h.1)⟩
  rw [← at_get hc]
  simp [DLand.Open, h1]

/-- The steps between two cells, where nothing stands in the way. -/
def DLand.apart (x : DLand) (a b : Int) : Int := (max (a % x.w - b % x.w) (b % x.w - a % x.w)) + max (a / x.w - b / x.w) (b / x.w - a / x.w)
noncomputable def DLand.apartZ (x : DLand) (a b : Int) : Int := if x.Cell a ∧ x.Cell b then x.apart a b else -1
theorem DLand.Cell.div {x : DLand} {a : Int} (h : x.Cell a) : 0 ≤ a % x.w ∧ a % x.w < x.w ∧ 0 ≤ a / x.w ∧ a / x.w < x.h ∧ a.tmod x.w = a % x.w ∧ a.tdiv x.w = a / x.w ∧ x.w ≠ 0 := by
  obtain ⟨⟨h1, h2, h3, _⟩, h4, h5⟩ := h
  refine ⟨Int.emod_nonneg _ (by omega), Int.emod_lt_of_pos _ (by omega), Int.ediv_nonneg h4 (by omega), ?_, Int.tmod_eq_emod_of_nonneg h4, Int.tdiv_eq_ediv_of_nonneg h4, by omega⟩
  exact Int.ediv_lt_of_lt_mul (by omega) (by rw [Int.mul_comm]; omega)
theorem abs_max {a b : Int} : max (a - b) (-(a - b)) = max (a - b) (b - a) := by omega
end Go.Abs
