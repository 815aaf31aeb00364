/- StillDays: the program's and the reference's. -/
import Derived.Test.YtcaokibfjjoimaaAHarn
namespace Go.Abs
open Go.RowKit Go.Proofs
set_option linter.unusedVariables false
set_option linter.unusedSimpArgs false
set_option maxRecDepth 100000

/-- What is left to count from a page on. -/
def still : List DPage → Int
  | [] => 0
  | [_] => 0
  | p :: q :: l => (if p.cell = q.cell then 1 else 0) + still (q :: l)

theorem still_bound (l : List DPage) : 0 ≤ still l ∧ still l ≤ l.length := by
  induction l with
  | nil => simp [still]
  | cons p l ih => cases l with
    | nil => simp [still]
    | cons q l => simp only [still, List.length_cons] at ih ⊢; split <;> omega

theorem still_short {l : List DPage} (h : l.length ≤ 1) : still l = 0 := by
  rcases l with _ | ⟨p, _ | ⟨q, l⟩⟩
  · rfl
  · rfl
  · simp at h

theorem still_step {l : List DPage} {i : Nat} {p q : DPage} (hp : l[i]? = some p) (hq : l[i - 1]? = some q) (hi : 1 ≤ i) : still (l.drop (i - 1)) = (if q.cell = p.cell then 1 else 0) + still (l.drop i) := by
  rw [drop_get hq, show i - 1 + 1 = i by omega, drop_get hp]; rfl

theorem impl_StillDays (l : List DPage) (hl : l.length ≤ 1048576) : SC Try.prog 29 [.at (.im 4 (l.map DPage.row))] [] (.at (.v (.int .i64 (still l)))) [] := by
  refine SC.of_V mixed Try.func29 (by kernel_rfl) rfl Try.results29 _ Try.ntmps29 (by simp) ?_
  simp -implicitDefEqProofs only [go_sem]
  refine T.loopW mixed [0, 3, 4] (fun mm vs es => ∃ (i : Nat) (k : Int), vs = [.at (.im 4 (l.map DPage.row)), .at (.v (.int .i64 k)), .at (.v (.int .i64 i))] ∧ es = [] ∧ mm + i = l.length + 1 ∧ 1 ≤ i ∧ 0 ≤ k ∧ k ≤ i ∧ k + still (l.drop (i - 1)) = still l) l.length ?_ ?_
  · simp -implicitDefEqProofs only [go_sem]
    exact ⟨1, 0, by simp⟩
  rintro n _ _ ⟨i, k, rfl, rfl, hn, hi, hk0, hki, hk⟩
  simp -implicitDefEqProofs only [go_sem]
  refine ⟨fun h => ?_, fun h => ?_⟩
  · refine ⟨true, by decide +kernel, ?_⟩
    simp -implicitDefEqProofs only [go_sem]
    rw [wrap64 (by omega) (by omega), show ((i : Int) - 1).toNat = i - 1 by omega]
    refine ⟨by omega, fun p hp => ⟨by omega, fun q hq => ?_⟩⟩
    rw [still_step hp hq hi] at hk
    refine ⟨fun hc => ?_, fun hc => ?_⟩
    · rw [if_pos hc.symm] at hk
      rw [wrap64 (by omega) (by omega), wrap64 (by omega) (by omega)]
      exact ⟨n - 1, by omega, i + 1, k + 1, ⟨rfl, rfl⟩, by omega, by omega, by omega, by omega, by rw [Nat.add_sub_cancel]; omega⟩
    · rw [if_neg (fun h => hc h.symm)] at hk
      rw [wrap64 (by omega) (by omega)]
      exact ⟨n - 1, by omega, i + 1, k, ⟨rfl, rfl⟩, by omega, by omega, by omega, by omega, by rw [Nat.add_sub_cancel]; omega⟩
  · rw [still_short (by rw [List.length_drop]; omega)] at hk
    omega
theorem spec_StillDays (l : List DPage) (hl : l.length ≤ 1048576) : SC Try.prog 27 [.at (.im 4 (l.map DPage.row))] [] (.at (.v (.int .i64 (still l)))) [] := by
  refine SC.of_V mixed Try.func27 (by kernel_rfl) rfl Try.results27 _ Try.ntmps27 (by simp) ?_
  simp -implicitDefEqProofs only [go_sem]
  refine T.loopW mixed [0, 3, 4] (fun mm vs es => ∃ (i : Nat) (k : Int), vs = [.at (.im 4 (l.map DPage.row)), .at (.v (.int .i64 k)), .at (.v (.int .i64 i))] ∧ es = [] ∧ mm + i = l.length + 1 ∧ 1 ≤ i ∧ 0 ≤ k ∧ k ≤ i ∧ k + still (l.drop (i - 1)) = still l) l.length ?_ ?_
  · simp -implicitDefEqProofs only [go_sem]
    exact ⟨1, 0, by simp⟩
  rintro n _ _ ⟨i, k, rfl, rfl, hn, hi, hk0, hki, hk⟩
  simp -implicitDefEqProofs only [go_sem]
  refine ⟨fun h => ?_, fun h => ?_⟩
  · refine ⟨true, by decide +kernel, ?_⟩
    simp -implicitDefEqProofs only [go_sem]
    rw [wrap64 (by omega) (by omega), show ((i : Int) - 1).toNat = i - 1 by omega]
    refine ⟨by omega, fun p hp => ⟨by omega, fun q hq => ?_⟩⟩
    rw [still_step hp hq hi] at hk
    refine ⟨fun hc => ?_, fun hc => ?_⟩
    · rw [if_pos hc.symm] at hk
      rw [wrap64 (by omega) (by omega), wrap64 (by omega) (by omega)]
      exact ⟨n - 1, by omega, i + 1, k + 1, ⟨rfl, rfl⟩, by omega, by omega, by omega, by omega, by rw [Nat.add_sub_cancel]; omega⟩
    · rw [if_neg (fun h => hc h.symm)] at hk
      rw [wrap64 (by omega) (by omega)]
      exact ⟨n - 1, by omega, i + 1, k, ⟨rfl, rfl⟩, by omega, by omega, by omega, by omega, by rw [Nat.add_sub_cancel]; omega⟩
  · rw [still_short (by rw [List.length_drop]; omega)] at hk
    omega
end Go.Abs
