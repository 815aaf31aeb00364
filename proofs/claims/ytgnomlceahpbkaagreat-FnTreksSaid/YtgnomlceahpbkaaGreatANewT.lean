/- When a new expedition is one. -/
import Derived.Test.YtgnomlceahpbkaaGreatATrekH
namespace Go.Abs
open Go.RowKit Go.Proofs
set_option linter.unusedVariables false
set_option linter.unusedSimpArgs false
set_option maxRecDepth 100000
set_option maxHeartbeats 4000000

theorem way_self {x : DLand} {b : Int} (h : x.Open b) : wayZ x b b = [b] := by
  have h0 := steps_0 h
  have hd : daysZ x b b = 0 := by rw [daysZ, if_pos ⟨h, h⟩, h0]
  rw [wayZ, if_neg (by omega), h0]; rfl
theorem newT_trek {x : DLand} {base : Int} {r : DRule} {crew : List DMember} : trekP (newT x base r crew) ↔ x.Open base ∧ r.Ok ∧ CrewP crew := by
  constructor
  · intro h
    have h1 := h.1.1.1
    exact ⟨h1.2.2.1, h1.1, h1.2.2.2.1⟩
  · rintro ⟨h1, h2, h3⟩
    refine ⟨⟨⟨⟨h2, ⟨fun j m hm => by simp [newT] at hm, h1.1.1, by simp [newT]⟩, h1, h3, by simp [newT], by simp [newT]⟩, ?_⟩, ?_⟩, ?_, ⟨fun j m hm => by simp [newT] at hm, by simp [newT]⟩, .inl rfl, by simp [newT], ?_⟩
    · show wayZ x base base ≠ []
      rw [way_self h1]; simp
    · show (homeW r [] (pickZ _ _) ((wayZ x base base).drop 1)).2.2 = true
      rw [way_self h1, List.drop_succ_cons, List.drop_zero, homeW_nil]
    · refine ⟨h2, ?_⟩
      intro i hi
      show stormZ (win [] r.window.toNat i) ≤ r.most
      have : win ([] : List Bool) r.window.toNat i = [] := by simp [win]
      rw [this]
      have e : stormZ ([] : List Bool) = 0 := rfl
      rw [e]; exact h2.2.1
    · simp [lostP, newT, foodZ, sumL]
end Go.Abs
