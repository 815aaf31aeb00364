/- What a cell sees, and the days that a journal spends near it. -/
import Derived.Test.YtcaokibfjjoimaaACount
namespace Go.Abs
open Go.RowKit Go.Proofs
set_option linter.unusedVariables false
set_option linter.unusedSimpArgs false
set_option maxRecDepth 100000

theorem DLand.apart_0 (x : DLand) (a b : Int) : 0 ≤ x.apart a b := by
  unfold DLand.apart; omega
theorem DLand.apartZ_comm (x : DLand) (a b : Int) : x.apartZ a b = x.apartZ b a := by
  unfold DLand.apartZ
  have e : x.apart a b = x.apart b a := by unfold DLand.apart; omega
  by_cases h : x.Cell a ∧ x.Cell b
  · rw [if_pos h, if_pos ⟨h.2, h.1⟩, e]
  · rw [if_neg h, if_neg (fun k => h ⟨k.2, k.1⟩)]
/-- A cell is seen from another. -/
def DLand.Sees (x : DLand) (a f b : Int) : Prop := 0 ≤ x.apartZ a b ∧ x.apartZ a b ≤ f
noncomputable instance (x : DLand) (a f b : Int) : Decidable (x.Sees a f b) := Classical.propDecidable _
theorem DLand.sees_cell {x : DLand} {a f b : Int} (h : x.Sees a f b) : x.Cell a := by
  have := h.1
  unfold DLand.apartZ at this
  split at this
  · rename_i k; exact k.1
  · omega
noncomputable def seeTo (x : DLand) (a f : Int) (c : Nat) : List Int := ((List.range c).filter fun (c : Nat) => decide (x.Sees a f c)).map fun (c : Nat) => (c : Int)
theorem seeTo_yes {x : DLand} {a f : Int} {c : Nat} (h : x.Sees a f c) : seeTo x a f (c + 1) = seeTo x a f c ++ [(c : Int)] := by
  simp [seeTo, List.range_succ, h]
theorem seeTo_no {x : DLand} {a f : Int} {c : Nat} (h : ¬ x.Sees a f c) : seeTo x a f (c + 1) = seeTo x a f c := by
  simp [seeTo, List.range_succ, h]
theorem seeTo_len {x : DLand} {a f : Int} {c : Nat} : (seeTo x a f c).length ≤ c := by
  have := List.length_filter_le (fun (c : Nat) => decide (x.Sees a f c)) (List.range c)
  simp [seeTo] at *; omega
theorem seeTo_none {x : DLand} {a f : Int} {c : Nat} (h : ¬ x.Cell a) : seeTo x a f c = [] := by
  simp [seeTo]; intro b _ k; exact h (DLand.sees_cell k)
noncomputable def seeZ (x : DLand) (a f : Int) : List Int := seeTo x a f x.cells.length
theorem impl_CanSee (x : DLand) (a f : Int) (hl : x.cells.length ≤ 1048576) : SC Try.prog 47 [.ag x.ats, .at (.v (.int .i64 a)), .at (.v (.int .i64 f))] [] (.at (.fr 1 ((seeZ x a f).map intRow))) [] := by
  refine SC.of_W mixed Try.func47 (by kernel_rfl) rfl Try.results47 _ Try.ntmps47 (by simp) ?_
  simp -implicitDefEqProofs only [go_sem]
  refine T.loopW mixed [1, 2, 3, 7, 13, 14] (fun mm vs es => ∃ (c : Nat), vs = [.at (.v (.int .i64 a)), .at (.v (.int .i64 f)), .at (.bx 100 0 0), .at (.ow 101 0 1 ((seeTo x a f c).length)), .at (.v (.int .i64 x.cells.length)), .at (.v (.int .i64 c))] ∧ es = [.box 0 x.ats, .arr 0 1 ((seeTo x a f c).map intRow)] ∧ mm + c = x.cells.length) x.cells.length ?_ ?_
  · simp -implicitDefEqProofs only [go_sem]; exact ⟨0, by simp [seeTo]⟩
  rintro n _ _ ⟨c, rfl, rfl, hn⟩
  simp -implicitDefEqProofs only [go_sem]
  refine ⟨fun h => ?_, fun h => ?_⟩
  · refine callX [] (impl_Apart x a c hl) (by simp -implicitDefEqProofs only [go_sem]) ?_
    simp -implicitDefEqProofs only [go_sem]
    rw [wrap64 (by omega) (by omega)]
    have hv := seeTo_len (x := x) (a := a) (f := f) (c := c)
    have no : ¬ x.Sees a f c → seeTo x a f (c + 1) = seeTo x a f c := seeTo_no
    refine ⟨fun k1 => ⟨fun k2 => ⟨room8 (by omega), n - 1, by omega, c + 1, ⟨by rw [seeTo_yes ⟨by omega, k2⟩]; simp, rfl⟩, by rw [seeTo_yes ⟨by omega, k2⟩]; simp [intRow], by omega⟩, fun k2 => ⟨n - 1, by omega, c + 1, ⟨by rw [seeTo_no (fun h => k2 h.2)], rfl⟩, by rw [seeTo_no (fun h => k2 h.2)], by omega⟩⟩, fun k1 => ⟨n - 1, by omega, c + 1, ⟨by rw [seeTo_no (fun h => k1 (by have := h.1; omega))], rfl⟩, by rw [seeTo_no (fun h => k1 (by have := h.1; omega))], by omega⟩⟩
  · have : c = x.cells.length := by omega
    subst this
    exact ⟨rfl, rfl⟩
theorem spec_CanSee (x : DLand) (a f : Int) (hl : x.cells.length ≤ 1048576) : SC Try.prog 46 [.ag x.ats, .at (.v (.int .i64 a)), .at (.v (.int .i64 f))] [] (.at (.fr 1 ((seeZ x a f).map intRow))) [] := by
  refine SC.of_W mixed Try.func46 (by kernel_rfl) rfl Try.results46 _ Try.ntmps46 (by simp) ?_
  simp -implicitDefEqProofs only [go_sem]
  refine T.loopW mixed [1, 2, 3, 7, 8] (fun mm vs es => ∃ (c : Nat), vs = [.at (.v (.int .i64 a)), .at (.v (.int .i64 f)), .at (.bx 100 0 0), .at (.ow 101 0 1 ((seeTo x a f c).length)), .at (.v (.int .i64 c))] ∧ es = [.box 0 x.ats, .arr 0 1 ((seeTo x a f c).map intRow)] ∧ mm + c = x.cells.length) x.cells.length ?_ ?_
  · simp -implicitDefEqProofs only [go_sem]; exact ⟨0, by simp [seeTo]⟩
  rintro n _ _ ⟨c, rfl, rfl, hn⟩
  simp -implicitDefEqProofs only [go_sem]
  have hv := seeTo_len (x := x) (a := a) (f := f) (c := c)
  refine ⟨fun h => ?_, fun h => ?_⟩
  · refine callX [] (spec_IsCell x a hl) (by simp -implicitDefEqProofs only [go_sem]) ?_
    simp -implicitDefEqProofs only [go_sem]
    refine ⟨fun h1 => ?_, fun h1 => by rw [seeZ, seeTo_none h1, seeTo_none h1]; exact ⟨rfl, rfl⟩⟩
    have hc : x.Cell c := ⟨h1.1, by omega, by omega⟩
    refine callX [] (spec_Apart x a c hl) (by simp -implicitDefEqProofs only [go_sem]) ?_
    simp -implicitDefEqProofs only [go_sem]
    have h0 : 0 ≤ x.apartZ a c := by rw [DLand.apartZ, if_pos ⟨h1, hc⟩]; exact x.apart_0 a c
    rw [wrap64 (by omega) (by omega)]
    exact ⟨fun k2 => ⟨room8 (by omega), n - 1, by omega, c + 1, ⟨by rw [seeTo_yes ⟨h0, k2⟩]; simp, rfl⟩, by rw [seeTo_yes ⟨h0, k2⟩]; simp [intRow], by omega⟩, fun k2 => ⟨n - 1, by omega, c + 1, ⟨by rw [seeTo_no (fun h => k2 h.2)], rfl⟩, by rw [seeTo_no (fun h => k2 h.2)], by omega⟩⟩
  · have : c = x.cells.length := by omega
    subst this
    exact ⟨rfl, rfl⟩
noncomputable def nearDaysZ (x : DLand) (l : List DPage) (c f : Int) : Int := sumL (fun p => if x.Sees c f p.cell then 1 else 0) l
theorem impl_DaysNear (x : DLand) (l : List DPage) (c f : Int) (hx : x.cells.length ≤ 1048576) (hl : l.length ≤ 1048576) : SC Try.prog 53 [.ag x.ats, .at (.im 4 (l.map DPage.row)), .at (.v (.int .i64 c)), .at (.v (.int .i64 f))] [] (.at (.v (.int .i64 (nearDaysZ x l c f)))) [] := by
  refine SC.of_V mixed Try.func53 (by kernel_rfl) rfl Try.results53 _ Try.ntmps53 (by simp) ?_
  simp -implicitDefEqProofs only [go_sem]
  refine T.loopW mixed [2, 3, 4, 9, 13, 14, 15] (fun mm vs es => ∃ (i : Nat), vs = [.at (.v (.int .i64 c)), .at (.v (.int .i64 f)), .at (.bx 100 0 0), .at (.v (.int .i64 (sumT (fun p => if x.Sees c f p.cell then 1 else 0) l i))), .at (.im 4 (l.map DPage.row)), .at (.v (.int .i64 l.length)), .at (.v (.int .i64 i))] ∧ es = [.box 0 x.ats] ∧ mm + i = l.length) l.length ?_ ?_
  · simp -implicitDefEqProofs only [go_sem]; exact ⟨0, ⟨sum0.symm, rfl⟩, by omega⟩
  rintro n _ _ ⟨i, rfl, rfl, hn⟩
  simp -implicitDefEqProofs only [go_sem]
  have hb := sum_bound (f := fun p : DPage => if x.Sees c f p.cell then 1 else 0) (l := l) (B := 1) (i := i) (fun c _ => by split <;> omega) (by omega)
  refine ⟨fun h => ⟨by omega, fun p hp => ?_⟩, fun h => sumEnd h⟩
  refine callX [] (impl_Apart x p.cell c hx) (by simp -implicitDefEqProofs only [go_sem]) ?_
  simp -implicitDefEqProofs only [go_sem]
  have e := x.apartZ_comm p.cell c
  rw [wrap64 (by omega) (by omega)]
  have no : ¬ x.Sees c f p.cell → sumT (fun p : DPage => if x.Sees c f p.cell then 1 else 0) l i = sumT (fun p : DPage => if x.Sees c f p.cell then 1 else 0) l (i + 1) := fun h => by rw [sumS hp, if_neg h]; simp
  refine ⟨fun k1 => ⟨fun k2 => ?_, fun k2 => ?_⟩, fun k1 => ?_⟩
  · rw [wrap64 (by omega) (by omega)]
    exact ⟨n - 1, by omega, i + 1, ⟨by rw [sumS hp, if_pos ⟨by omega, by omega⟩], rfl⟩, by omega⟩
  · exact ⟨n - 1, by omega, i + 1, ⟨no (fun h => by have := h.2; omega), by rw [wrap64 (by omega) (by omega)]; rfl⟩, by omega⟩
  · exact ⟨n - 1, by omega, i + 1, ⟨no (fun h => by have := h.1; omega), by rw [wrap64 (by omega) (by omega)]; rfl⟩, by omega⟩
theorem spec_DaysNear (x : DLand) (l : List DPage) (c f : Int) (hx : x.cells.length ≤ 1048576) (hl : l.length ≤ 1048576) : SC Try.prog 52 [.ag x.ats, .at (.im 4 (l.map DPage.row)), .at (.v (.int .i64 c)), .at (.v (.int .i64 f))] [] (.at (.v (.int .i64 (nearDaysZ x l c f)))) [] := by
  refine SC.of_V mixed Try.func52 (by kernel_rfl) rfl Try.results52 _ Try.ntmps52 (by simp) ?_
  simp -implicitDefEqProofs only [go_sem]
  refine T.loopW mixed [1, 2, 3, 4, 9, 10] (fun mm vs es => ∃ (i : Nat), vs = [.at (.im 4 (l.map DPage.row)), .at (.v (.int .i64 c)), .at (.v (.int .i64 f)), .at (.bx 100 0 0), .at (.v (.int .i64 (sumT (fun p => if x.Sees c f p.cell then 1 else 0) l i))), .at (.v (.int .i64 i))] ∧ es = [.box 0 x.ats] ∧ mm + i = l.length) l.length ?_ ?_
  · simp -implicitDefEqProofs only [go_sem]; exact ⟨0, ⟨sum0.symm, rfl⟩, by omega⟩
  rintro n _ _ ⟨i, rfl, rfl, hn⟩
  simp -implicitDefEqProofs only [go_sem]
  have hb := sum_bound (f := fun p : DPage => if x.Sees c f p.cell then 1 else 0) (l := l) (B := 1) (i := i) (fun c _ => by split <;> omega) (by omega)
  refine ⟨fun h => ?_, fun h => sumEnd h⟩
  refine ⟨true, by decide +kernel, ?_⟩
  simp -implicitDefEqProofs only [go_sem]
  refine ⟨by omega, fun p hp => ?_⟩
  refine callXQ [] (spec_Apart x c p.cell hx) (by simp -implicitDefEqProofs only [go_sem]) ?_
  simp -implicitDefEqProofs only [go_sem]
  rw [wrap64 (by omega) (by omega)]
  have no : ¬ x.Sees c f p.cell → sumT (fun p : DPage => if x.Sees c f p.cell then 1 else 0) l i = sumT (fun p : DPage => if x.Sees c f p.cell then 1 else 0) l (i + 1) := fun h => by rw [sumS hp, if_neg h]; simp
  refine ⟨fun k1 => ⟨fun k2 => ?_, fun k2 => ?_⟩, fun k1 => ?_⟩
  · rw [wrap64 (by omega) (by omega)]
    exact ⟨n - 1, by omega, i + 1, ⟨by rw [sumS hp, if_pos ⟨by omega, by omega⟩], rfl⟩, by omega⟩
  · exact ⟨n - 1, by omega, i + 1, ⟨no (fun h => by have := h.2; omega), by rw [wrap64 (by omega) (by omega)]; rfl⟩, by omega⟩
  · exact ⟨n - 1, by omega, i + 1, ⟨no (fun h => by have := h.1; omega), by rw [wrap64 (by omega) (by omega)]; rfl⟩, by omega⟩
end Go.Abs
