/- Going on and waiting: whether one may. -/
import Derived.Test.YtlhlgcghfidglaaADay
namespace Go.Abs
open Go.RowKit Go.Proofs
set_option linter.unusedVariables false
set_option linter.unusedSimpArgs false
set_option maxRecDepth 100000

noncomputable def nearZ (x : DLand) (n : Int) : List Int := if x.Cell n then x.near n else []
theorem nearZ_len (x : DLand) (n : Int) : (nearZ x n).length ≤ 4 := by
  unfold nearZ; by_cases h : x.Cell n
  · rw [if_pos h]; exact DLand.near_len
  · rw [if_neg h]; simp
theorem impl_NearZ (x : DLand) (n : Int) (hl : x.cells.length ≤ 1048576) : SC Try.prog 86 [.ag x.ats, .at (.v (.int .i64 n))] [] (.at (.fr 1 ((nearZ x n).map intRow))) [] := by
  by_cases h : x.Cell n
  · rw [nearZ, if_pos h]; exact impl_Near x n h hl
  · rw [nearZ, if_neg h]
    refine SC.of_WJ mixed Try.func86 (by kernel_rfl) rfl Try.results86 _ Try.ntmps86 (by simp) ?_
    simp -implicitDefEqProofs only [go_sem]
    refine T.stepJ mixed ?_
    simp -implicitDefEqProofs only [go_sem]
    refine callX [] (impl_IsCell x n hl) (by simp -implicitDefEqProofs only [go_sem]) ?_
    simp -implicitDefEqProofs only [go_sem]
    exact fun k => absurd k h
def placeF (n : Int) : List Int → Int → Int
  | [], _ => -1
  | v :: l, k => if v = n then k else placeF n l (k + 1)
theorem placeF_pos {n : Int} : ∀ {l : List Int} {k : Int}, 0 ≤ k → (0 ≤ placeF n l k ↔ n ∈ l) := by
  intro l
  induction l with
  | nil => intro k h; simp [placeF]
  | cons v l ih =>
    intro k h
    by_cases e : v = n
    · rw [placeF, if_pos e]; simp [e, h]
    · rw [placeF, if_neg e, ih (by omega)]; simp [Ne.symm e]
/-! ### A day -/
noncomputable def dayZ (p : DParty) (to : Int) (s : Bool) : DParty := { eatZ p with at_ := to, past := addDay p.past s }
theorem impl_passed (p : DParty) (to : Int) (s : Bool) (h1 : p.crew.length ≤ 1048576) (h2 : p.past.length ≤ 1048575) (hf : I64 p.food) : SC Try.prog 60 [.ag p.ats, .at (.v (.int .i64 to)), .at (.v (.bool s))] [] (.tp [.ag (if eatP p then dayZ p to s else p).frs, .at (.v (.bool (decide (eatP p))))]) [] := by
  refine SC.of_W mixed Try.func60 (by kernel_rfl) rfl Try.results60 _ Try.ntmps60 (by simp) ?_
  simp -implicitDefEqProofs only [go_sem]
  refine callX [] (impl_Eat p h1 (by omega) hf) (by simp -implicitDefEqProofs only [go_sem]) ?_
  simp -implicitDefEqProofs only [go_sem]
  refine ⟨fun h => ?_, fun h => ?_⟩
  · have e : eatZ p = p := if_neg h
    rw [if_neg h, e]
    exact ⟨⟨⟨rfl, rfl, rfl, rfl⟩, dec_f h⟩, rfl, rfl⟩
  · refine callX [] (impl_AddDay p.past s h2) (by simp -implicitDefEqProofs only [go_sem]) ?_
    simp -implicitDefEqProofs only [go_sem]
    rw [if_pos h]
    exact ⟨⟨⟨rfl, rfl, rfl, rfl⟩, dec_t h⟩, rfl, rfl⟩
/-! ### Whether one may -/
def safeP (x : DLand) (base : Int) (r : DRule) (l : List DDepot) (p : DParty) (to : Int) (s : Bool) : Prop := eatP p ∧ backP x base r l (dayZ p to s)
noncomputable instance (x : DLand) (base : Int) (r : DRule) (l : List DDepot) (p : DParty) (to : Int) (s : Bool) : Decidable (safeP x base r l p to s) := Classical.propDecidable _
theorem dayZ_crew (p : DParty) (to : Int) (s : Bool) : (dayZ p to s).crew = p.crew := (eat_crew p).1
/-- A storm may come, or may not: both ways one is safe. -/
def mayGoP (x : DLand) (base : Int) (r : DRule) (l : List DDepot) (p : DParty) (to : Int) : Prop := (to ∈ nearZ x p.at_ ∧ backP x base r l p) ∧ safeP x base r l p to false ∧ (mayP r p.past → safeP x base r l p p.at_ true)
noncomputable instance (x : DLand) (base : Int) (r : DRule) (l : List DDepot) (p : DParty) (to : Int) : Decidable (mayGoP x base r l p to) := Classical.propDecidable _
def mayWaitP (x : DLand) (base : Int) (r : DRule) (l : List DDepot) (p : DParty) : Prop := backP x base r l p ∧ safeP x base r l p p.at_ false ∧ (mayP r p.past → safeP x base r l p p.at_ true)
noncomputable instance (x : DLand) (base : Int) (r : DRule) (l : List DDepot) (p : DParty) : Decidable (mayWaitP x base r l p) := Classical.propDecidable _
def goStepP (x : DLand) (base : Int) (r : DRule) (l : List DDepot) (p : DParty) (to : Int) (s : Bool) : Prop := mayGoP x base r l p to ∧ (s = true → mayP r p.past)
noncomputable instance (x : DLand) (base : Int) (r : DRule) (l : List DDepot) (p : DParty) (to : Int) (s : Bool) : Decidable (goStepP x base r l p to s) := Classical.propDecidable _
noncomputable def goStepZ (x : DLand) (base : Int) (r : DRule) (l : List DDepot) (p : DParty) (to : Int) (s : Bool) : DParty := if goStepP x base r l p to s then dayZ p (if s = true then p.at_ else to) s else p
theorem goStepP.eat {x : DLand} {base : Int} {r : DRule} {l : List DDepot} {p : DParty} {to : Int} {s : Bool} (h : goStepP x base r l p to s) : eatP p := h.1.2.1.1
theorem goStepZ_crew {x : DLand} {base : Int} {r : DRule} {l : List DDepot} {p : DParty} {to : Int} {s : Bool} : (goStepZ x base r l p to s).crew = p.crew := by
  by_cases h : goStepP x base r l p to s
  · rw [goStepZ, if_pos h]; exact dayZ_crew _ _ _
  · rw [goStepZ, if_neg h]
theorem goStepZ_past {x : DLand} {base : Int} {r : DRule} {l : List DDepot} {p : DParty} {to : Int} {s : Bool} {N : Nat} (hN : p.past.length ≤ N) (h10 : 10 ≤ N) : (goStepZ x base r l p to s).past.length ≤ N := by
  by_cases h : goStepP x base r l p to s
  · rw [goStepZ, if_pos h]; exact Nat.le_trans (addDay_len _ _) h10
  · rw [goStepZ, if_neg h]; exact hN
theorem goStepZ_c {x : DLand} {base : Int} {r : DRule} {l : List DDepot} {p : DParty} {to : Int} {s : Bool} {N : Nat} (hN : p.crew.length ≤ N) : (goStepZ x base r l p to s).crew.length ≤ N := by rw [goStepZ_crew]; exact hN
def waitStepP (x : DLand) (base : Int) (r : DRule) (l : List DDepot) (p : DParty) (s : Bool) : Prop := mayWaitP x base r l p ∧ (s = true → mayP r p.past)
noncomputable instance (x : DLand) (base : Int) (r : DRule) (l : List DDepot) (p : DParty) (s : Bool) : Decidable (waitStepP x base r l p s) := Classical.propDecidable _
noncomputable def waitStepZ (x : DLand) (base : Int) (r : DRule) (l : List DDepot) (p : DParty) (s : Bool) : DParty := if waitStepP x base r l p s then dayZ p p.at_ s else p
end Go.Abs
