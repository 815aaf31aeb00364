/- Turning back: how long a party can wait, ways that are safe. -/
import Derived.Test.YtfdkpmbpnppllaaGreatASafe
import Derived.Test.YtfdkpmbpnppllaaGreatAStpX
namespace Go.Abs
open Go.RowKit Go.Proofs
set_option linter.unusedVariables false
set_option linter.unusedSimpArgs false
set_option maxRecDepth 100000
set_option maxHeartbeats 4000000

theorem waitStepZ_past {x : DLand} {base : Int} {r : DRule} {l : List DDepot} {p : DParty} {s : Bool} {N : Nat} (hN : p.past.length ≤ N) (h10 : 10 ≤ N) : (waitStepZ x base r l p s).past.length ≤ N := by
  by_cases h : waitStepP x base r l p s
  · rw [waitStepZ, if_pos h]; exact Nat.le_trans (addDay_len _ _) h10
  · rw [waitStepZ, if_neg h]; exact hN
theorem waitStepZ_c {x : DLand} {base : Int} {r : DRule} {l : List DDepot} {p : DParty} {s : Bool} {N : Nat} (hN : p.crew.length ≤ N) : (waitStepZ x base r l p s).crew.length ≤ N := by rw [waitStepZ_crew]; exact hN
/-- The storm of a day that is waited: at worst (b), or none. -/
noncomputable def wst (r : DRule) (b : Bool) (p : DParty) : Bool := if b = true then decide (mayP r p.past) else false
noncomputable def waitsF (x : DLand) (base : Int) (r : DRule) (l : List DDepot) (b : Bool) : Nat → DParty → Nat
  | 0, _ => 0
  | n + 1, p => if waitStepP x base r l p (wst r b p) then waitsF x base r l b n (waitStepZ x base r l p (wst r b p)) + 1 else 0
theorem waitsF_le {x : DLand} {base : Int} {r : DRule} {l : List DDepot} {b : Bool} : ∀ (n : Nat) (p : DParty), waitsF x base r l b n p ≤ n := by
  intro n
  induction n with
  | zero => intro p; exact Nat.le_refl _
  | succ n ih =>
    intro p
    rw [waitsF]
    split
    · have := ih (waitStepZ x base r l p (wst r b p)); omega
    · omega
theorem waitsF_calm {x : DLand} {base : Int} {r : DRule} {l : List DDepot} {n : Nat} {p : DParty} : waitsF x base r l false (n + 1) p = if waitStepP x base r l p false then waitsF x base r l false n (waitStepZ x base r l p false) + 1 else 0 := by
  have e : wst r false p = false := if_neg Bool.false_ne_true
  rw [waitsF, e]
theorem waitsF_worst {x : DLand} {base : Int} {r : DRule} {l : List DDepot} {n : Nat} {p : DParty} : waitsF x base r l true (n + 1) p = if waitStepP x base r l p (decide (mayP r p.past)) then waitsF x base r l true n (waitStepZ x base r l p (decide (mayP r p.past))) + 1 else 0 := by
  have e : wst r true p = decide (mayP r p.past) := if_pos rfl
  rw [waitsF, e]
noncomputable def latestZ (x : DLand) (base : Int) (r : DRule) (l : List DDepot) (p : DParty) : Nat := waitsF x base r l true 100 p
noncomputable def calmN (x : DLand) (base : Int) (r : DRule) (l : List DDepot) (p : DParty) : Nat := waitsF x base r l false 100 p
/-! ### Choices, turning back -/
theorem nearZ_len4 {x : DLand} {n : Int} : (nearZ x n).length ≤ 4 := by
  unfold nearZ; split
  · exact DLand.near_len
  · simp
noncomputable def choicesZ (x : DLand) (base : Int) (r : DRule) (l : List DDepot) (p : DParty) : List Int := (nearZ x p.at_).filter fun c => decide (mayGoP x base r l p c)
theorem choicesZ_len {x : DLand} {base : Int} {r : DRule} {l : List DDepot} {p : DParty} : (choicesZ x base r l p).length ≤ 4 := Nat.le_trans (List.length_filter_le _ _) nearZ_len4
def mustP (x : DLand) (base : Int) (r : DRule) (l : List DDepot) (p : DParty) : Prop := (backP x base r l p ∧ p.at_ ≠ base ∧ ¬ mayWaitP x base r l p) ∧ ∀ c ∈ choicesZ x base r l p, daysZ x c base < daysZ x p.at_ base
noncomputable instance (x : DLand) (base : Int) (r : DRule) (l : List DDepot) (p : DParty) : Decidable (mustP x base r l p) := Classical.propDecidable _
/-! ### Ways -/
theorem laws_ascends (l : List Int) (hl : l.length ≤ 1048576) (h : l.Pairwise (· < ·)) : SC Tryz.prog 54 [.at (.im 1 (l.map intRow))] [] (.at (.v (.bool true))) [] := by
  refine SC.of_V mixed Tryz.func54 (by kernel_rfl) rfl Tryz.results54 _ Tryz.ntmps54 (by simp) ?_
  simp -implicitDefEqProofs only [go_sem]
  refine T.loopW mixed [0, 3] (fun mm vs es => ∃ (i : Nat), vs = [.at (.im 1 (l.map intRow)), .at (.v (.int .i64 (i : Nat)))] ∧ es = [] ∧ mm + i = l.length + 1 ∧ 1 ≤ i) l.length ?_ ?_
  · simp -implicitDefEqProofs only [go_sem]
    exact ⟨1, rfl, by omega, Nat.le_refl _⟩
  rintro q _ _ ⟨i, rfl, rfl, hn, hi⟩
  simp -implicitDefEqProofs only [go_sem]
  · intro hlt
    refine ⟨some [], by decide +kernel, ?_⟩
    simp -implicitDefEqProofs only [go_sem]
    rw [wrap64 (by omega) (by omega), show ((i : Int) - 1).toNat = i - 1 by omega]
    refine ⟨by omega, fun a ha => ⟨by omega, fun b hb => ⟨fun hle => ?_, fun _ => ⟨q - 1, by omega, i + 1, wrapS (by omega) (by omega) (by omega), by omega, by omega⟩⟩⟩⟩
    have h1 := List.pairwise_iff_getElem.1 h (i - 1) i (List.getElem?_eq_some_iff.1 ha).1 (List.getElem?_eq_some_iff.1 hb).1 (by omega)
    rw [(List.getElem?_eq_some_iff.1 ha).2, (List.getElem?_eq_some_iff.1 hb).2] at h1
    omega
theorem laws_contains (l : List Int) (n : Int) (hl : l.length ≤ 1048576) : SC Tryz.prog 42 [.at (.im 1 (l.map intRow)), .at (.v (.int .i64 n))] [] (.at (.v (.bool (decide (n ∈ l))))) [] := by
  refine SC.of_V mixed Tryz.func42 (by kernel_rfl) rfl Tryz.results42 _ Tryz.ntmps42 (by simp) ?_
  simp -implicitDefEqProofs only [go_sem]
  refine T.loopW mixed [0, 1, 5] (fun mm vs es => ∃ (i : Nat), vs = [.at (.im 1 (l.map intRow)), .at (.v (.int .i64 n)), .at (.v (.int .i64 (i : Nat)))] ∧ es = [] ∧ mm + i = l.length ∧ n ∉ l.take i) l.length ?_ ?_
  · simp -implicitDefEqProofs only [go_sem]
    exact ⟨0, rfl, by omega, by simp⟩
  rintro q _ _ ⟨i, rfl, rfl, hn, hs⟩
  simp -implicitDefEqProofs only [go_sem]
  refine ⟨fun hlt => ⟨by omega, fun c hcc => ⟨fun e => dec_t (by rw [← e]; exact mem_get hcc), fun e => ⟨q - 1, by omega, i + 1, wrapS (by omega) (by omega) (by omega), by omega, ?_⟩⟩⟩, fun hlt => ?_⟩
  · rw [List.take_add_one, hcc]
    simp only [Option.toList_some, List.mem_append, List.mem_singleton, not_or]
    exact ⟨hs, fun h => e h.symm⟩
  · rw [List.take_of_length_le (by omega)] at hs
    exact dec_f hs
noncomputable def safeWayP (x : DLand) (base : Int) (r : DRule) (l : List DDepot) (p : DParty) (way : List Int) : Prop := backP x base r l p ∧ 0 < way.length ∧ way.getD 0 0 = p.at_ ∧ (alongZ x base r l p (way.drop 1) : Int) = way.length - 1
noncomputable instance (x : DLand) (base : Int) (r : DRule) (l : List DDepot) (p : DParty) (way : List Int) : Decidable (safeWayP x base r l p way) := Classical.propDecidable _
end Go.Abs
