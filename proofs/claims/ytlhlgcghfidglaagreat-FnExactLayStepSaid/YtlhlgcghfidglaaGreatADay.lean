/- Days on the way: taking, returning, going, waiting. -/
import Derived.Test.YtlhlgcghfidglaaGreatAWorst
namespace Go.Abs
open Go.RowKit Go.Proofs
set_option linter.unusedVariables false
set_option linter.unusedSimpArgs false
set_option maxRecDepth 100000

theorem backP.food {x : DLand} {base : Int} {r : DRule} {l : List DDepot} {p : DParty} (h : backP x base r l p) : 0 ≤ p.food ∧ p.food ≤ 10000 := h.1.1.2.2.2.2.1
theorem backP.past {x : DLand} {base : Int} {r : DRule} {l : List DDepot} {p : DParty} (h : backP x base r l p) : p.past.length ≤ 10 := h.1.1.2.2.2.2.2
def takeStepP (x : DLand) (base : Int) (r : DRule) (l : List DDepot) (p : DParty) (n : Int) : Prop := takeP x l p.at_ n ∧ backP x base r l p ∧ n ≤ roomZ p
noncomputable instance (x : DLand) (base : Int) (r : DRule) (l : List DDepot) (p : DParty) (n : Int) : Decidable (takeStepP x base r l p n) := Classical.propDecidable _
noncomputable def takeStepZ (x : DLand) (base : Int) (r : DRule) (l : List DDepot) (p : DParty) (n : Int) : DParty := if takeStepP x base r l p n then { p with food := p.food + n } else p
noncomputable def takeStepL (x : DLand) (base : Int) (r : DRule) (l : List DDepot) (p : DParty) (n : Int) : List DDepot := if takeStepP x base r l p n then takeL p.at_ n l else l
theorem takeStepL_len (x : DLand) (base : Int) (r : DRule) (l : List DDepot) (p : DParty) (n : Int) : (takeStepL x base r l p n).length ≤ l.length := by
  unfold takeStepL; split
  · exact takeL_len _ _ _
  · exact Nat.le_refl _
theorem takeStepZ_crew {x : DLand} {base : Int} {r : DRule} {l : List DDepot} {p : DParty} {n : Int} : (takeStepZ x base r l p n).crew = p.crew ∧ (takeStepZ x base r l p n).past = p.past := by
  by_cases h : takeStepP x base r l p n
  · rw [takeStepZ, if_pos h]; exact ⟨rfl, rfl⟩
  · rw [takeStepZ, if_neg h]; exact ⟨rfl, rfl⟩
theorem takeStepZ_c {x : DLand} {base : Int} {r : DRule} {l : List DDepot} {p : DParty} {n : Int} {N : Nat} (h : p.crew.length ≤ N) : (takeStepZ x base r l p n).crew.length ≤ N := by rw [takeStepZ_crew.1]; exact h
theorem takeStepZ_p {x : DLand} {base : Int} {r : DRule} {l : List DDepot} {p : DParty} {n : Int} {N : Nat} (h : p.past.length ≤ N) : (takeStepZ x base r l p n).past.length ≤ N := by rw [takeStepZ_crew.2]; exact h
end Go.Abs
