/- Journals that can be walked. -/
import Derived.Test.YtfkciaogihemiaaAJournal
import Derived.Test.YtfkciaogihemiaaAWay
namespace Go.Abs
open Go.RowKit Go.Proofs
set_option linter.unusedVariables false
set_option linter.unusedSimpArgs false
set_option maxRecDepth 100000

def walkP (x : DLand) (l : List DPage) (i : Nat) (p : DPage) : Prop :=
  x.Open p.cell ∧ (0 < i → 0 ≤ daysZ x (prevP l i).cell p.cell ∧ daysZ x (prevP l i).cell p.cell ≤ IntKind.i64.wrap (p.day - (prevP l i).day))
def TraceL (x : DLand) (l : List DPage) : Prop := Each (walkP x l) l ∧ Journal l
noncomputable instance (x : DLand) (l : List DPage) : Decidable (TraceL x l) := Classical.propDecidable _
theorem impl_IsTrace (x : DLand) (l : List DPage) (hx : x.cells.length ≤ 1048576) (hl : l.length ≤ 1048576) (hw : ∀ p ∈ l, p.wf) : SC Try.prog 13 [.ag x.ats, .at (.im 4 (l.map DPage.row))] [] (.at (.v (.bool (decide (TraceL x l))))) [] := by
  refine SC.of_V mixed Try.func13 (by kernel_rfl) rfl Try.results13 _ Try.ntmps13 (by simp) ?_
  simp -implicitDefEqProofs only [go_sem]
  refine T.loopW mixed [1, 2, 8, 9, 10] (fun mm vs es => ∃ (i : Nat), vs = [.at (.im 4 (l.map DPage.row)), .at (.bx 100 0 0), .at (.im 4 (l.map DPage.row)), .at (.v (.int .i64 l.length)), .at (.v (.int .i64 i))] ∧ es = [.box 0 x.ats] ∧ mm + i = l.length ∧ EachTo (walkP x l) l i) l.length ?_ ?_
  · simp -implicitDefEqProofs only [go_sem]; exact ⟨0, by simp, by omega, each0⟩
  rintro n _ _ ⟨i, rfl, rfl, hn, hi⟩
  simp -implicitDefEqProofs only [go_sem]
  refine ⟨fun h => ?_, fun h => ?_⟩
  · skip
    refine ⟨by omega, fun p hp => ?_⟩
    have no : (walkP x l i p → False) → false = decide (TraceL x l) := fun hk => dec_f fun hj => eachNot hp hk hj.1
    have next : walkP x l i p → ∃ n', n' < n ∧ ∃ i1 : Nat, IntKind.i64.wrap (i + 1) = i1 ∧ n' + i1 = l.length ∧ EachTo (walkP x l) l i1 := fun hk =>
      ⟨n - 1, by omega, i + 1, by rw [wrap64 (by omega) (by omega)]; rfl, by omega, eachS hi hp hk⟩
    refine callX [] (impl_IsOpen x p.cell hx) (by simp -implicitDefEqProofs only [go_sem]) ?_
    simp -implicitDefEqProofs only [go_sem]
    refine ⟨fun k1 => no fun h => k1 h.1, fun k1 => ?_⟩
    refine ⟨fun h0 => ?_, fun h0 => next ⟨k1, fun h => absurd h (by omega)⟩⟩
    refine ⟨true, by decide +kernel, ?_⟩
    simp -implicitDefEqProofs only [go_sem]
    rw [wrap64 (x := (i : Int) - 1) (by omega) (by omega), show ((i : Int) - 1).toNat = i - 1 by omega]
    refine ⟨by omega, fun q hq => ?_⟩
    have e := prevP_get hq (by omega)
    refine callXQ [] (impl_Days x q.cell p.cell hx) (by simp -implicitDefEqProofs only [go_sem]) ?_
    simp -implicitDefEqProofs only [go_sem]
    refine ⟨true, by decide +kernel, ?_⟩
    simp -implicitDefEqProofs only [go_sem]
    rw [wrap64 (x := (i : Int) - 1) (by omega) (by omega), show ((i : Int) - 1).toNat = i - 1 by omega]
    refine ⟨fun k2 => ?_, fun k2 => no fun h => by have := h.2 (by omega); rw [e] at this; omega⟩
    refine ⟨by omega, fun q2 hq2 => ?_⟩
    have e3 : q2 = q := by rw [hq] at hq2; exact (Option.some.inj hq2).symm
    subst e3
    exact ⟨fun k3 => no fun h => by have := h.2 (by omega); rw [e] at this; omega, fun k3 => next ⟨k1, fun _ => by rw [e]; omega⟩⟩
  · skip
    refine callX [] (impl_IsJournal l hl hw) (by simp -implicitDefEqProofs only [go_sem]) ?_
    simp -implicitDefEqProofs only [go_sem]
    exact decide_eq_decide.2 ⟨fun h2 => ⟨eachEnd hi h, h2⟩, fun h2 => h2.2⟩
theorem spec_IsTrace (x : DLand) (l : List DPage) (hx : x.cells.length ≤ 1048576) (hl : l.length ≤ 1048576) (hw : ∀ p ∈ l, p.wf) : SC Try.prog 10 [.ag x.ats, .at (.im 4 (l.map DPage.row))] [] (.at (.v (.bool (decide (TraceL x l))))) [] := by
  refine SC.of_V mixed Try.func10 (by kernel_rfl) rfl Try.results10 _ Try.ntmps10 (by simp) ?_
  simp -implicitDefEqProofs only [go_sem]
  refine T.loopW mixed [1, 2, 5] (fun mm vs es => ∃ (i : Nat), vs = [.at (.im 4 (l.map DPage.row)), .at (.bx 100 0 0), .at (.v (.int .i64 i))] ∧ es = [.box 0 x.ats] ∧ mm + i = l.length ∧ EachTo (walkP x l) l i) l.length ?_ ?_
  · simp -implicitDefEqProofs only [go_sem]; exact ⟨0, by simp, by omega, each0⟩
  rintro n _ _ ⟨i, rfl, rfl, hn, hi⟩
  simp -implicitDefEqProofs only [go_sem]
  refine ⟨fun h => ?_, fun h => ?_⟩
  · skip
    refine ⟨true, by decide +kernel, ?_⟩
    simp -implicitDefEqProofs only [go_sem]
    refine ⟨by omega, fun p hp => ?_⟩
    have no : (walkP x l i p → False) → false = decide (TraceL x l) := fun hk => dec_f fun hj => eachNot hp hk hj.1
    have next : walkP x l i p → ∃ n', n' < n ∧ ∃ i1 : Nat, IntKind.i64.wrap (i + 1) = i1 ∧ n' + i1 = l.length ∧ EachTo (walkP x l) l i1 := fun hk =>
      ⟨n - 1, by omega, i + 1, by rw [wrap64 (by omega) (by omega)]; rfl, by omega, eachS hi hp hk⟩
    refine callXQ [] (spec_IsOpen x p.cell hx) (by simp -implicitDefEqProofs only [go_sem]) ?_
    simp -implicitDefEqProofs only [go_sem]
    refine ⟨fun k1 => no fun h => k1 h.1, fun k1 => ?_⟩
    refine ⟨fun h0 => ?_, fun h0 => next ⟨k1, fun h => absurd h (by omega)⟩⟩
    refine ⟨true, by decide +kernel, ?_⟩
    simp -implicitDefEqProofs only [go_sem]
    rw [wrap64 (x := (i : Int) - 1) (by omega) (by omega), show ((i : Int) - 1).toNat = i - 1 by omega]
    refine ⟨by omega, fun q hq => ?_⟩
    have e := prevP_get hq (by omega)
    refine ⟨by omega, fun p2 hp2 => ?_⟩
    have e2 : p2 = p := by rw [hp] at hp2; exact (Option.some.inj hp2).symm
    rw [e2]
    refine callXQ [] (spec_Days x q.cell p.cell hx) (by simp -implicitDefEqProofs only [go_sem]) ?_
    simp -implicitDefEqProofs only [go_sem]
    refine ⟨true, by decide +kernel, ?_⟩
    simp -implicitDefEqProofs only [go_sem]
    rw [wrap64 (x := (i : Int) - 1) (by omega) (by omega), show ((i : Int) - 1).toNat = i - 1 by omega]
    refine ⟨fun k2 => ?_, fun k2 => no fun h => by have := h.2 (by omega); rw [e] at this; omega⟩
    refine ⟨by omega, fun p2 hp2 => ?_⟩
    have e2 : p2 = p := by rw [hp] at hp2; exact (Option.some.inj hp2).symm
    rw [e2]
    refine ⟨by omega, fun q2 hq2 => ?_⟩
    have e3 : q2 = q := by rw [hq] at hq2; exact (Option.some.inj hq2).symm
    subst e3
    exact ⟨fun k3 => no fun h => by have := h.2 (by omega); rw [e] at this; omega, fun k3 => next ⟨k1, fun _ => by rw [e]; omega⟩⟩
  · skip
    refine callX [] (spec_IsJournal l hl hw) (by simp -implicitDefEqProofs only [go_sem]) ?_
    simp -implicitDefEqProofs only [go_sem]
    exact decide_eq_decide.2 ⟨fun h2 => ⟨eachEnd hi h, h2⟩, fun h2 => h2.2⟩
end Go.Abs
