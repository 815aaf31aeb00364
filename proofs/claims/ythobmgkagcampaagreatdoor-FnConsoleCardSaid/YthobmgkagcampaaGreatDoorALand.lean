/- Lands, cells, and how far cells are from each other. -/
import Derived.Test.YthobmgkagcampaaGreatDoorABase
namespace Go.Abs
open Go.RowKit Go.Proofs
set_option linter.all false
set_option maxRecDepth 100000
def DLand.Ok (x : DLand) : Prop := (1 <= x.w /\ x.w <= 8) /\ (1 <= x.h /\ x.h <= 8) /\ (x.cells.length : Int) = x.w * x.h /\ Each (fun _ n => 0 <= n /\ n <= 2) x.cells
noncomputable instance (x : DLand) : Decidable x.Ok := Classical.propDecidable _
def DLand.Cell (x : DLand) (n : Int) : Prop := x.Ok /\ 0 <= n /\ n < x.cells.length
noncomputable instance (x : DLand) (n : Int) : Decidable (x.Cell n) := Classical.propDecidable _
def DLand.at (x : DLand) (n : Int) : Int := x.cells.getD n.toNat 0
def DLand.Open (x : DLand) (n : Int) : Prop := x.Cell n /\ x.at n ≠ 2
noncomputable instance (x : DLand) (n : Int) : Decidable (x.Open n) := Classical.propDecidable _
theorem mul_small {a b : Int} (h1 : 1 <= a /\ a <= 8) (h2 : 1 <= b /\ b <= 8) : 1 <= a * b /\ a * b <= 64 /\ a <= a * b := by
 obtain ⟨h1, h3⟩ := h1
 have : a = 1 \/ a = 2 \/ a = 3 \/ a = 4 \/ a = 5 \/ a = 6 \/ a = 7 \/ a = 8 := by omega
 rcases this with rfl | rfl | rfl | rfl | rfl | rfl | rfl | rfl <;> omega
theorem DLand.Ok.len {x : DLand} (h : x.Ok) : 1 <= x.cells.length /\ x.cells.length <= 64 := by
 have := mul_small h.1 h.2.1
 have := h.2.2.1
 omega
theorem at_get {x : DLand} {n : Int} {c : Int} (h : x.cells[n.toNat]? = some c) : x.at n = c := by
 rw [DLand.at, List.getD_eq_getElem?_getD, h]; rfl
theorem impl_IsLand (x : DLand) (hl : x.cells.length <= 1048576) : SC Tryz.prog 35 [.ag x.ats] [] (.at (.v (.bool (decide x.Ok)))) [] := by
 refine SC.of_V mixed Tryz.func35 (by kernel_rfl) rfl Tryz.results35 _ Tryz.ntmps35 (by simp) ?_
 simp -implicitDefEqProofs only [go_sem]
 refine callX [] (impl_InRange x.w 1 8) (by simp -implicitDefEqProofs only [go_sem]) ?_
 simp -implicitDefEqProofs only [go_sem]
 refine ⟨fun h1 => ?_, fun h1 => dec_f (fun h => h1 h.1)⟩
 refine callX [] (impl_InRange x.h 1 8) (by simp -implicitDefEqProofs only [go_sem]) ?_
 simp -implicitDefEqProofs only [go_sem]
 refine ⟨fun h2 => ?_, fun h2 => dec_f (fun h => h2 h.2.1)⟩
 have := mul_small h1 h2
 rw [wrap64 (by omega) (by omega)]
 refine ⟨fun h3 => ?_, fun h3 => dec_f (fun h => h3 h.2.2.1)⟩
 refine callX [] (impl_allIn x.cells 0 2 hl) (by simp -implicitDefEqProofs only [go_sem]) ?_
 simp -implicitDefEqProofs only [go_sem]
 exact decide_eq_decide.2 ⟨fun h => ⟨h1, h2, h3, h⟩, fun h => h.2.2.2⟩
theorem spec_IsLand (x : DLand) (hl : x.cells.length <= 1048576) : SC Tryz.prog 220 [.ag x.ats] [] (.at (.v (.bool (decide x.Ok)))) [] := by
 refine SC.of_V mixed Tryz.func220 (by kernel_rfl) rfl Tryz.results220 _ Tryz.ntmps220 (by simp) ?_
 simp -implicitDefEqProofs only [go_sem]
 refine callX [] (spec_l1In x.w 1 8) (by simp -implicitDefEqProofs only [go_sem]) ?_
 simp -implicitDefEqProofs only [go_sem]
 refine ⟨fun h1 => ?_, fun h1 => dec_f (fun h => h1 h.1)⟩
 refine callX [] (spec_l1In x.h 1 8) (by simp -implicitDefEqProofs only [go_sem]) ?_
 simp -implicitDefEqProofs only [go_sem]
 refine ⟨fun h2 => ?_, fun h2 => dec_f (fun h => h2 h.2.1)⟩
 have := mul_small h1 h2
 rw [wrap64 (by omega) (by omega)]
 refine ⟨fun h3 => dec_f (fun h => h3 h.2.2.1), fun h3 => ?_⟩
 refine T.loopW mixed [1, 3] (fun mm vs es => ∃ (i : Nat), vs = [.at (.bx 100 0 0), .at (.v (.int .i64 i))] /\ es = [.box 0 x.ats] /\ mm + i = x.cells.length /\ EachTo (fun _ n => 0 <= n /\ n <= 2) x.cells i) x.cells.length ?_ ?_
 ·simp -implicitDefEqProofs only [go_sem]; exact ⟨0, rfl, by omega, each0⟩
 rintro n _ _ ⟨i, rfl, rfl, hn, hi⟩
 simp -implicitDefEqProofs only [go_sem]
 refine ⟨fun h => ⟨by omega, fun c hc => ?_⟩, fun h => dec_t ⟨h1, h2, h3, eachEnd hi h⟩⟩
 refine callX [] (spec_l1In c 0 2) (by simp -implicitDefEqProofs only [go_sem]) ?_
 simp -implicitDefEqProofs only [go_sem]
 refine ⟨fun hk => dec_f fun h => eachNot hc hk h.2.2.2, fun hk => ?_⟩
 rw [wrap64 (by omega) (by omega)]
 exact ⟨n - 1, by omega, i + 1, rfl, by omega, eachS hi hc hk⟩
theorem impl_IsCell (x : DLand) (n : Int) (hl : x.cells.length <= 1048576) : SC Tryz.prog 186 [.ag x.ats, .at (.v (.int .i64 n))] [] (.at (.v (.bool (decide (x.Cell n))))) [] := by
 refine SC.of_V mixed Tryz.func186 (by kernel_rfl) rfl Tryz.results186 _ Tryz.ntmps186 (by simp) ?_
 simp -implicitDefEqProofs only [go_sem]
 refine callX [] (impl_IsLand x hl) (by simp -implicitDefEqProofs only [go_sem]) ?_
 simp -implicitDefEqProofs only [go_sem]
 refine ⟨fun h1 => ?_, fun h1 => dec_f (fun h => h1 h.1)⟩
 rw [wrap64 (by omega) (by omega)]
 refine callX [] (impl_InRange n 0 (x.cells.length - 1)) (by simp -implicitDefEqProofs only [go_sem]) ?_
 simp -implicitDefEqProofs only [go_sem]
 refine decide_eq_decide.2 ⟨fun h => ⟨h1, h.1, by omega⟩, fun h => ⟨h.2.1, by have := h.2.2; omega⟩⟩
theorem spec_IsCell (x : DLand) (n : Int) (hl : x.cells.length <= 1048576) : SC Tryz.prog 232 [.ag x.ats, .at (.v (.int .i64 n))] [] (.at (.v (.bool (decide (x.Cell n))))) [] := by
 refine SC.of_V mixed Tryz.func232 (by kernel_rfl) rfl Tryz.results232 _ Tryz.ntmps232 (by simp) ?_
 simp -implicitDefEqProofs only [go_sem]
 refine callX [] (spec_IsLand x hl) (by simp -implicitDefEqProofs only [go_sem]) ?_
 simp -implicitDefEqProofs only [go_sem]
 refine ⟨fun h1 => ?_, fun h1 => dec_f (fun h => h1 h.1)⟩
 rw [wrap64 (by omega) (by omega)]
 refine callX [] (spec_l1In n 0 (x.cells.length - 1)) (by simp -implicitDefEqProofs only [go_sem]) ?_
 simp -implicitDefEqProofs only [go_sem]
 refine decide_eq_decide.2 ⟨fun h => ⟨h1, h.1, by omega⟩, fun h => ⟨h.2.1, by have := h.2.2; omega⟩⟩
theorem impl_IsOpen (x : DLand) (n : Int) (hl : x.cells.length <= 1048576) : SC Tryz.prog 256 [.ag x.ats, .at (.v (.int .i64 n))] [] (.at (.v (.bool (decide (x.Open n))))) [] := by
 refine SC.of_V mixed Tryz.func256 (by kernel_rfl) rfl Tryz.results256 _ Tryz.ntmps256 (by simp) ?_
 simp -implicitDefEqProofs only [go_sem]
 refine callX [] (impl_IsCell x n hl) (by simp -implicitDefEqProofs only [go_sem]) ?_
 simp -implicitDefEqProofs only [go_sem]
 refine ⟨fun h1 => ⟨⟨h1.2.1, h1.2.2⟩, fun c hc => ?_⟩, fun h1 => dec_f (fun h => h1 h.1)⟩
 rw [<- at_get hc]
 simp [DLand.Open, h1]
theorem spec_IsOpen (x : DLand) (n : Int) (hl : x.cells.length <= 1048576) : SC Tryz.prog 294 [.ag x.ats, .at (.v (.int .i64 n))] [] (.at (.v (.bool (decide (x.Open n))))) [] := by
 refine SC.of_V mixed Tryz.func294 (by kernel_rfl) rfl Tryz.results294 _ Tryz.ntmps294 (by simp) ?_
 simp -implicitDefEqProofs only [go_sem]
 refine callX [] (spec_IsCell x n hl) (by simp -implicitDefEqProofs only [go_sem]) ?_
 simp -implicitDefEqProofs only [go_sem]
 refine ⟨fun h1 => ⟨⟨h1.2.1, h1.2.2⟩, fun c hc => ?_⟩, fun h1 => dec_f (fun h => h1 h.1)⟩
 rw [<- at_get hc]
 simp [DLand.Open, h1]
def DLand.apart (x : DLand) (a b : Int) : Int := (max (a % x.w - b % x.w) (b % x.w - a % x.w)) + max (a / x.w - b / x.w) (b / x.w - a / x.w)
noncomputable def DLand.apartZ (x : DLand) (a b : Int) : Int := if x.Cell a /\ x.Cell b then x.apart a b else -1
theorem DLand.Cell.div {x : DLand} {a : Int} (h : x.Cell a) : 0 <= a % x.w /\ a % x.w < x.w /\ 0 <= a / x.w /\ a / x.w < x.h /\ a.tmod x.w = a % x.w /\ a.tdiv x.w = a / x.w /\ x.w ≠ 0 := by
 obtain ⟨⟨h1, h2, h3, _⟩, h4, h5⟩ := h
 refine ⟨Int.emod_nonneg _ (by omega), Int.emod_lt_of_pos _ (by omega), Int.ediv_nonneg h4 (by omega), ?_, Int.tmod_eq_emod_of_nonneg h4, Int.tdiv_eq_ediv_of_nonneg h4, by omega⟩
 exact Int.ediv_lt_of_lt_mul (by omega) (by rw [Int.mul_comm]; omega)
theorem impl_Apart (x : DLand) (a b : Int) (hl : x.cells.length <= 1048576) : SC Tryz.prog 257 [.ag x.ats, .at (.v (.int .i64 a)), .at (.v (.int .i64 b))] [] (.at (.v (.int .i64 (x.apartZ a b)))) [] := by
 refine SC.of_V mixed Tryz.func257 (by kernel_rfl) rfl Tryz.results257 _ Tryz.ntmps257 (by simp) ?_
 simp -implicitDefEqProofs only [go_sem]
 refine callX [] (impl_IsCell x a hl) (by simp -implicitDefEqProofs only [go_sem]) ?_
 simp -implicitDefEqProofs only [go_sem]
 refine ⟨fun h1 => ?_, fun h1 => by rw [DLand.apartZ, if_neg (fun h => h1 h.1)]⟩
 refine callX [] (impl_IsCell x b hl) (by simp -implicitDefEqProofs only [go_sem]) ?_
 simp -implicitDefEqProofs only [go_sem]
 refine ⟨fun h2 => by rw [DLand.apartZ, if_neg (fun h => h2 h.2)], fun h2 => ?_⟩
 obtain ⟨a1, a2, a3, a4, a5, a6, a7⟩ := h1.div
 obtain ⟨b1, b2, b3, b4, b5, b6, b7⟩ := h2.div
 obtain ⟨⟨w1, w2⟩, ⟨w3, w4⟩, _⟩ := h1.1
 have e1 : a / x.w < 8 := by omega
 have e2 : b / x.w < 8 := by omega
 have ez : x.apartZ a b = x.apart a b := by rw [DLand.apartZ, if_pos ⟨h1, h2⟩]
 rw [ez, DLand.apart]
 refine ⟨some [], by decide +kernel, ?_⟩
 simp -implicitDefEqProofs only [go_sem]
 simp only [a5, a6, b5, b6]
 generalize a % x.w = p at *
 generalize b % x.w = q at *
 generalize a / x.w = r at *
 generalize b / x.w = s at *
 simp (disch := omega) only [wrap64, a7, not_false_eq_true, true_and, and_true, ne_eq]
 refine callXQ [] (impl_size (p - q) (by unfold I64; omega) (by omega)) (by simp -implicitDefEqProofs only [go_sem]) ?_
 simp -implicitDefEqProofs only [go_sem]
 simp (disch := omega) only [wrap64, a6, b6, a7, not_false_eq_true, true_and, and_true, ne_eq]
 refine callXQ [] (impl_size (r - s) (by unfold I64; omega) (by omega)) (by simp -implicitDefEqProofs only [go_sem]) ?_
 simp -implicitDefEqProofs only [go_sem]
 rw [wrap64 (by omega) (by omega)]
 try omega
end Go.Abs
