/- Contracts of the laws' own helpers: sizes, copies, comparisons, marks. -/
import Derived.Test.YtfdkpmbpnppllaaAData
import Derived.Test.YtfdkpmbpnppllaaALibC
namespace Go.Abs
open Go.RowKit Go.Proofs
set_option linter.unusedVariables false
set_option linter.unusedSimpArgs false
set_option maxRecDepth 100000

def szL (n : Nat) (left : Int) : Int := if left - n < 0 then -1 else left - n
theorem szL_neg {n : Nat} {left : Int} (h : szL n left < 0) (h0 : 0 ≤ left) : left < n := by unfold szL at h; split at h <;> omega
theorem szL_pos {n : Nat} {left : Int} (h : ¬ szL n left < 0) : szL n left = left - n ∧ (n : Int) ≤ left := by unfold szL at h ⊢; split at h <;> simp_all <;> omega
theorem szL_szL {n k : Nat} {left : Int} (h : ¬ szL n left < 0) : szL k (szL n left) = szL (n + k) left := by
  have h1 := szL_pos h
  unfold szL at *
  split at h1 <;> simp_all <;> split <;> split <;> omega
theorem szL_neg' {n k : Nat} {left : Int} (h : szL n left < 0) (h0 : 0 ≤ left) : szL (n + k) left = -1 := by have := szL_neg h h0; unfold szL; rw [if_pos (by omega)]
def Bnd (n : Nat) : Prop := n ≤ 1099511627776
theorem getD_set {β : Type} {R : List (List β)} {i : Nat} (h : i < R.length) {r : List β} : (R.set i r).getD i [] = r := by
  rw [List.getD_eq_getElem?_getD, List.getElem?_set_self h]; rfl
theorem drop_all {β : Type} {l : List β} {i : Nat} (h : ¬ (i : Int) < l.length) : l.drop i = [] := List.drop_of_length_le (by omega)
theorem eq_step {β : Type} [DecidableEq β] {a b : List β} {i : Nat} {p q : β} (ht : a.take i = b.take i) (hp : a[i]? = some p) (hq : b[i]? = some q) (h : p = q) : a.take (i + 1) = b.take (i + 1) := by
  rw [List.take_add_one, List.take_add_one, ht, hp, hq, h]
theorem eq_end {β : Type} [DecidableEq β] {a b : List β} {i : Nat} (hl : a.length = b.length) (ht : a.take i = b.take i) (h : ¬ (i : Int) < a.length) : a = b := by
  rw [List.take_of_length_le (by omega), List.take_of_length_le (by omega)] at ht; exact ht
theorem ne_step {β : Type} {a b : List β} {i : Nat} {p q : β} (hp : a[i]? = some p) (hq : b[i]? = some q) (h : p ≠ q) : a ≠ b := by
  rintro rfl; rw [hp] at hq; exact h (by simpa using hq)

theorem laws_eqIntS (a b : List Int) (ha : a.length ≤ 1099511627776) : SC Try.prog 10 [.at (.im 1 (a.map intRow)), .at (.im 1 (b.map intRow))] [] (.at (.v (.bool (decide (a = b))))) [] := by
  refine SC.of_V mixed Try.func10 (by kernel_rfl) rfl Try.results10 _ Try.ntmps10 (by simp) ?_
  simp -implicitDefEqProofs only [go_sem]
  refine ⟨fun h => ?_, fun h => ?_⟩
  · simp; rintro rfl; exact h rfl
  have hl : a.length = b.length := by omega
  refine T.loopW mixed [0, 1, 5] (fun mm vs es => ∃ (i : Nat), vs = [.at (.im 1 (a.map intRow)), .at (.im 1 (b.map intRow)), .at (.v (.int .i64 i))] ∧ es = [] ∧ mm + i = a.length ∧ a.take i = b.take i) a.length ?_ ?_
  · simp -implicitDefEqProofs only [go_sem]; exact ⟨0, rfl, by omega, by simp⟩
  rintro n _ _ ⟨i, rfl, rfl, hn, ht⟩
  simp -implicitDefEqProofs only [go_sem]
  refine ⟨fun h => ?_, fun h => ?_⟩
  · refine ⟨some [], by decide +kernel, ?_⟩
    simp -implicitDefEqProofs only [go_sem]
    refine ⟨by omega, fun p hp => ⟨by omega, fun q hq => ?_⟩⟩
    skip
    refine ⟨fun hpq => ?_, fun hpq => ?_⟩
    · have := ne_step hp hq (by simpa using hpq)
      simp [this]
    · rw [wrap64 (by omega) (by omega)]
      exact ⟨n - 1, by omega, i + 1, rfl, by omega, eq_step ht hp hq (by simpa using hpq)⟩
  · have := eq_end hl ht h
    simp [this]
def markInt (k : Int) : List Value := [.int .i64 k]
attribute [go_sem] markInt
theorem laws_markIntS (l : List Int) (k : Int) (h1 : 0 ≤ k) (h2 : k ≤ 1125899906842624) (hl : l.length ≤ 1099511627776) : SC Try.prog 11 [.at (.ow 0 0 1 l.length), .at (.v (.int .i64 k))] [.arr 0 1 (l.map intRow)] (.at (.v (.int .i64 (k + 1 * l.length)))) [.arr 0 1 (marks markInt 1 k l.length)] := by
  refine SC.of_M mixed Try.func11 (by kernel_rfl) rfl Try.results11 _ Try.ntmps11 (by simp) (by simp) ?_
  simp -implicitDefEqProofs only [go_sem]
  refine T.loopM mixed [0, 1, 5] (fun n vs es => ∃ i : Nat, vs = [.at (.ow 0 0 1 l.length), .at (.v (.int .i64 (k + 1 * i))), .at (.v (.int .i64 i))] ∧ es = [.arr 0 1 (marks markInt 1 k i ++ (l.drop i).map intRow)] ∧ n + i = l.length) l.length (by omega) ?_ ?_
  · simp -implicitDefEqProofs only [go_sem, invOf]
    exact ⟨0, by simp, by simp [marks_zero], by omega⟩
  rintro n _ _ ⟨i, rfl, rfl, hn⟩ -
  simp -implicitDefEqProofs only [go_sem]
  refine ⟨fun h => ?_, fun h => ?_⟩
  · obtain ⟨x, hx⟩ : ∃ x, l[i]? = some x := ⟨l[i], List.getElem?_eq_getElem (by omega)⟩
    have e0 := marks_mid (g := intRow) (f := markInt) (s := 1) (k := k) hx
    have e1 := marks_set (g := intRow) (f := markInt) (s := 1) (k := k) (r := markInt (k + 1 * i)) hx rfl
    have hR : i < (marks markInt 1 k i ++ (l.drop i).map intRow).length := by simp [marks_length]; omega
    have hb : (0 : Int) ≤ i ∧ (i : Int) < l.length := by omega
    have hb2 : i < i + (l.length - i) := by omega
    generalize marks markInt 1 k i ++ (l.drop i).map intRow = R at e0 e1 hR ⊢
    simp -implicitDefEqProofs (disch := omega) only [go_sem, invOf, wrap64, List.set_set, getD_set hR, e0, hb, hb2, Int.add_assoc, Int.reduceAdd]
    refine ⟨n - 1, by omega, i + 1, ⟨by omega, by omega⟩, ?_, by omega⟩
    exact (congrArg (R.set i) (by simp [markInt, Int.add_assoc])).trans e1
  · have : i = l.length := by omega
    subst this
    simp
theorem laws_heldIntS (N : Nat) (k : Int) (h1 : 0 ≤ k) (h2 : k ≤ 1125899906842624) (hl : N ≤ 1099511627776) : SC Try.prog 12 [.at (.im 1 (marks markInt 1 k N)), .at (.v (.int .i64 k))] [] (.at (.v (.int .i64 (k + 1 * N)))) [] := by
  unfold marks
  refine SC.of_V mixed Try.func12 (by kernel_rfl) rfl Try.results12 _ Try.ntmps12 (by simp) ?_
  simp -implicitDefEqProofs only [go_sem]
  refine T.loopW mixed [0, 1, 5] (fun mm vs es => ∃ (i : Nat), vs = [.at (.im 1 ((List.range N).map fun (j : Nat) => markInt (k + 1 * (j : Int)))), .at (.v (.int .i64 (k + 1 * i))), .at (.v (.int .i64 i))] ∧ es = [] ∧ mm + i = N) N ?_ ?_
  · simp -implicitDefEqProofs only [go_sem]
    exact ⟨0, by simp⟩
  rintro n _ _ ⟨i, rfl, rfl, hn⟩
  simp -implicitDefEqProofs only [go_sem]
  refine ⟨fun h => ?_, fun h => ?_⟩
  · simp only [List.length_range] at h
    have hb : (0 : Int) ≤ i ∧ (i : Int) < ((List.range N).length : Int) := by simp only [List.length_range]; omega
    have hg : (List.range N)[i]? = some i := by rw [List.getElem?_range (by omega)]
    simp -implicitDefEqProofs (disch := omega) only [go_sem, hb, hg, Option.some.injEq, forall_eq', wrap64, Int.add_assoc, Int.reduceAdd]
    refine ⟨n - 1, by omega, i + 1, ?_⟩
    omega
  · simp only [List.length_range] at h
    have : i = N := by omega
    subst this
    rfl
def markBool (k : Int) : List Value := [.bool (decide (k.tmod 3 = 0))]
attribute [go_sem] markBool
def markPage (k : Int) : List Value := [.int .i64 k, .int .i64 (k + 1), .int .i64 (k + 2), .int .i64 (k + 3)]
attribute [go_sem] markPage
def markEvent (k : Int) : List Value := [.int .i64 k, .int .i64 (k + 1), .bool (decide (Int.tmod (k + 2) 3 = 0))]
attribute [go_sem] markEvent
def markMember (k : Int) : List Value := [.int .i64 k, .int .i64 (k + 1), .int .i64 (k + 2), .bool (decide (Int.tmod (k + 3) 3 = 0))]
attribute [go_sem] markMember
def markDepot (k : Int) : List Value := [.int .i64 k, .int .i64 (k + 1)]
attribute [go_sem] markDepot

theorem szL_lt {n : Nat} {left : Int} (h : szL n left < 0) : szL n left = -1 := by unfold szL at *; split <;> simp_all
theorem szL_in {n : Nat} {left : Int} (h : ¬ szL n left < 0) (h2 : left ≤ 1048576) : 0 ≤ szL n left ∧ szL n left ≤ 1048576 := by have := szL_pos h; omega
theorem szL_over {n k : Nat} {left : Int} (h : szL n left < 0) (h0 : 0 ≤ left) : szL n left = szL (n + k) left := by rw [szL_lt h, szL_neg' h h0]

theorem laws_eqLand (a b : DLand) (ha : a.cells.length ≤ 1099511627776) : SC Try.prog 6 [.ag a.ats, .ag b.ats] [] (.at (.v (.bool (decide (a = b))))) [] := by
  refine SC.of_V mixed Try.func6 (by kernel_rfl) rfl Try.results6 _ Try.ntmps6 (by simp) ?_
  simp -implicitDefEqProofs only [go_sem]
  refine ⟨fun h => ?_, fun h1 => ⟨fun h => ?_, fun h2 => ?_⟩⟩
  · exact (decide_eq_false (by rintro rfl; exact h rfl)).symm
  · exact (decide_eq_false (by rintro rfl; exact h rfl)).symm
  refine callX [] (laws_eqIntS a.cells b.cells ha) (by simp -implicitDefEqProofs only [go_sem]) ?_
  simp -implicitDefEqProofs only [go_sem]
  obtain ⟨a1, a2, a3⟩ := a; obtain ⟨b1, b2, b3⟩ := b
  simp only [DLand.mk.injEq] at *
  grind
theorem laws_markLand (x : DLand) (k : Int) (h1 : 0 ≤ k) (h2 : k ≤ 562949953421312) (hc : x.cells.length ≤ 1099511627776) : SC Try.prog 7 [.ag [.v (.int .i64 x.w), .v (.int .i64 x.h), .ow 0 0 1 x.cells.length], .at (.v (.int .i64 k))] [.arr 0 1 (x.cells.map intRow)] (.at (.v (.int .i64 (k + 1 * x.cells.length)))) [.arr 0 1 (marks markInt 1 k x.cells.length)] := by
  refine SC.of_M mixed Try.func7 (by kernel_rfl) rfl Try.results7 _ Try.ntmps7 (by simp) (by simp) ?_
  simp -implicitDefEqProofs only [go_sem, invOf]
  refine callXM [0] (laws_markIntS x.cells k h1 (by omega) hc) (by decide) (by simp -implicitDefEqProofs only [go_sem]) ?_
  simp -implicitDefEqProofs only [go_sem]
theorem laws_heldLand (x : DLand) (k : Int) (h1 : 0 ≤ k) (h2 : k ≤ 562949953421312) (hc : x.cells.length ≤ 1099511627776) : SC Try.prog 8 [.ag [.v (.int .i64 x.w), .v (.int .i64 x.h), .im 1 (marks markInt 1 k x.cells.length)], .at (.v (.int .i64 k))] [] (.at (.v (.int .i64 (k + 1 * x.cells.length)))) [] := by
  refine SC.of_V mixed Try.func8 (by kernel_rfl) rfl Try.results8 _ Try.ntmps8 (by simp) ?_
  simp -implicitDefEqProofs only [go_sem]
  refine callX [] (laws_heldIntS x.cells.length k h1 (by omega) hc) (by simp -implicitDefEqProofs only [go_sem]) ?_
  simp -implicitDefEqProofs only [go_sem]
  exact fun h => absurd h (by omega)
end Go.Abs
