/- Events keep expeditions valid. -/
import Derived.Test.YtfdkpmbpnppllaaGreatAComesZ
namespace Go.Abs
open Go.RowKit Go.Proofs
set_option linter.unusedVariables false
set_option linter.unusedSimpArgs false
set_option maxRecDepth 100000

section
variable {t : DTrek} {e : DEvent}
theorem dayR_keep {p : DParty} {l : List DDepot} {Q : Prop} : (trekP t → trekP (dayR t p l Q)) ∧ (¬ trekP t → dayR t p l Q = t) := by
  unfold dayR
  split
  · rename_i h; exact ⟨fun _ => h.2.2, fun k => absurd h.2.1 k⟩
  · exact ⟨fun h => h, fun _ => rfl⟩
theorem putR_keep {p : DParty} {l : List DDepot} {Q : Prop} : (trekP t → trekP (putR t p l Q)) ∧ (¬ trekP t → putR t p l Q = t) := by
  unfold putR
  split
  · rename_i h; exact ⟨fun _ => h.2.2, fun k => absurd h.2.1 k⟩
  · exact ⟨fun h => h, fun _ => rfl⟩
theorem giveZ_keep {n : Int} : (trekP t → trekP (giveZ t n)) ∧ (¬ trekP t → giveZ t n = t) := by
  unfold giveZ
  split
  · rename_i h; exact ⟨fun _ => h.2.2.2, fun k => absurd h.2.2.1 k⟩
  · exact ⟨fun h => h, fun _ => rfl⟩
theorem apply_keep : (trekP t → trekP (applyZ t e)) ∧ (¬ trekP t → applyZ t e = t) := by
  by_cases h1 : e.kind = 1
  · rw [(apply_1 h1).1]; exact giveZ_keep
  by_cases h2 : e.kind = 2
  · rw [(apply_2 h2).1]; exact dayR_keep
  by_cases h3 : e.kind = 3
  · rw [(apply_3 h3).1]; exact dayR_keep
  by_cases h4 : e.kind = 4
  · rw [(apply_4 h4).1]; exact dayR_keep
  by_cases h5 : e.kind = 5
  · rw [(apply_5 h5).1]; exact putR_keep
  by_cases h6 : e.kind = 6
  · rw [(apply_6 h6).1]; exact putR_keep
  · rw [(apply_0 h1 h2 h3 h4 h5 h6).1]; exact ⟨fun h => h, fun _ => rfl⟩
/-- An event that is refused changes nothing. -/
theorem apply_no (h : ¬ applyP t e) : applyZ t e = t := by
  by_cases h1 : e.kind = 1
  · rw [(apply_1 h1).2] at h; rw [(apply_1 h1).1]; exact if_neg h
  by_cases h2 : e.kind = 2
  · rw [(apply_2 h2).2] at h; rw [(apply_2 h2).1]; exact if_neg h
  by_cases h3 : e.kind = 3
  · rw [(apply_3 h3).2] at h; rw [(apply_3 h3).1]; exact if_neg h
  by_cases h4 : e.kind = 4
  · rw [(apply_4 h4).2] at h; rw [(apply_4 h4).1]; exact if_neg h
  by_cases h5 : e.kind = 5
  · rw [(apply_5 h5).2] at h; rw [(apply_5 h5).1]; exact if_neg h
  by_cases h6 : e.kind = 6
  · rw [(apply_6 h6).2] at h; rw [(apply_6 h6).1]; exact if_neg h
  · exact (apply_0 h1 h2 h3 h4 h5 h6).1
theorem apply_kind (h : applyP t e) : 1 ≤ e.kind ∧ e.kind ≤ 6 := by
  by_cases h1 : e.kind = 1
  · omega
  by_cases h2 : e.kind = 2
  · omega
  by_cases h3 : e.kind = 3
  · omega
  by_cases h4 : e.kind = 4
  · omega
  by_cases h5 : e.kind = 5
  · omega
  by_cases h6 : e.kind = 6
  · omega
  · rw [(apply_0 h1 h2 h3 h4 h5 h6).2] at h; exact h.elim
end
theorem run_keep : ∀ (l : List DEvent) (t : DTrek), (trekP t → trekP (runZ t l)) ∧ (¬ trekP t → runZ t l = t) := by
  intro l
  induction l with
  | nil => intro t; exact ⟨fun h => h, fun _ => rfl⟩
  | cons e l ih =>
    intro t
    have h1 := apply_keep (t := t) (e := e)
    have h2 := ih (applyZ t e)
    refine ⟨fun h => h2.1 (h1.1 h), fun h => ?_⟩
    show runZ (applyZ t e) l = t
    rw [h1.2 h]
    exact (ih t).2 h
theorem run_app (t : DTrek) (l m : List DEvent) : runZ t (l ++ m) = runZ (runZ t l) m := List.foldl_append ..
theorem run_split (t : DTrek) (l : List DEvent) (k : Nat) : runZ (runZ t (l.take k)) (l.drop k) = runZ t l := by
  rw [← run_app, List.take_append_drop]
theorem run_trek (l : List DEvent) (t : DTrek) : trekP t ↔ trekP (runZ t l) := by
  refine ⟨(run_keep l t).1, fun h => Decidable.byContradiction fun hn => ?_⟩
  rw [(run_keep l t).2 hn] at h
  exact hn h
/-! ### Days -/
theorem apply_day (t : DTrek) (e : DEvent) : (applyZ t e).day = t.day ∨ (trekP t ∧ (applyZ t e).day = t.day + 1) := by
  have hd : ∀ (p : DParty) (l : List DDepot) (Q : Prop), (dayR t p l Q).day = t.day ∨ (trekP t ∧ (dayR t p l Q).day = t.day + 1) := by
    intro p l Q
    unfold dayR
    split
    · rename_i h
      right
      refine ⟨h.2.1, ?_⟩
      have := h.2.1.2.2.2.2.1
      exact wrap64 (by omega) (by omega)
    · left; rfl
  have hp : ∀ (p : DParty) (l : List DDepot) (Q : Prop), (putR t p l Q).day = t.day := by
    intro p l Q
    unfold putR
    split <;> rfl
  by_cases h1 : e.kind = 1
  · rw [(apply_1 h1).1]; left; unfold giveZ; split <;> rfl
  by_cases h2 : e.kind = 2
  · rw [(apply_2 h2).1]; exact hd _ _ _
  by_cases h3 : e.kind = 3
  · rw [(apply_3 h3).1]; exact hd _ _ _
  by_cases h4 : e.kind = 4
  · rw [(apply_4 h4).1]; exact hd _ _ _
  by_cases h5 : e.kind = 5
  · rw [(apply_5 h5).1]; left; exact hp _ _ _
  by_cases h6 : e.kind = 6
  · rw [(apply_6 h6).1]; left; exact hp _ _ _
  · rw [(apply_0 h1 h2 h3 h4 h5 h6).1]; left; rfl
theorem run_day : ∀ (l : List DEvent) (t : DTrek), t.day ≤ (runZ t l).day ∧ (runZ t l).day ≤ t.day + l.length := by
  intro l
  induction l with
  | nil => intro t; exact ⟨Int.le_refl _, by simp [runZ]⟩
  | cons e l ih =>
    intro t
    have h1 := apply_day t e
    have h2 := ih (applyZ t e)
    show t.day ≤ (runZ (applyZ t e) l).day ∧ (runZ (applyZ t e) l).day ≤ _
    rw [List.length_cons]
    omega
end Go.Abs
