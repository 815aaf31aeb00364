/- Food in the depots, the rule of storms, and what a trek's books say. -/
import Derived.Test.YtfdkpmbpnppllaaDoorAJournal
import Derived.Test.YtfdkpmbpnppllaaDoorACount
namespace Go.Abs
open Go.RowKit Go.Proofs
set_option linter.unusedVariables false
set_option linter.unusedSimpArgs false
set_option maxRecDepth 100000

def foodOf (d : DDepot) : Int := max 0 (min 10000 d.food)
def foodZ (l : List DDepot) : Int := sumL foodOf l
theorem foodOf_bnd (d : DDepot) : 0 ≤ foodOf d ∧ foodOf d ≤ 10000 := by unfold foodOf; omega
theorem foodZ_bnd (l : List DDepot) : 0 ≤ foodZ l ∧ foodZ l ≤ 10000 * l.length := by
  have := sum_all (f := foodOf) (l := l) (B := 10000) (fun c _ => foodOf_bnd c)
  unfold foodZ; omega
theorem impl_TotalFood (l : List DDepot) (hl : l.length ≤ 1048576) : SC Tryd.prog 47 [.at (.im 2 (l.map DDepot.row))] [] (.at (.v (.int .i64 (foodZ l)))) [] := by
  refine SC.of_V mixed Tryd.func47 (by kernel_rfl) rfl Tryd.results47 _ Tryd.ntmps47 (by simp) ?_
  simp -implicitDefEqProofs only [go_sem]
  refine T.loopW mixed [3, 6, 7, 8] (fun mm vs es => ∃ (i : Nat), vs = [.at (.v (.int .i64 (sumT foodOf l i))), .at (.im 2 (l.map DDepot.row)), .at (.v (.int .i64 l.length)), .at (.v (.int .i64 i))] ∧ es = [] ∧ mm + i = l.length) l.length ?_ ?_
  · simp -implicitDefEqProofs only [go_sem]; exact ⟨0, ⟨sum0.symm, rfl⟩, by omega⟩
  rintro n _ _ ⟨i, rfl, rfl, hn⟩
  simp -implicitDefEqProofs only [go_sem]
  have hb := sum_bound (f := foodOf) (l := l) (B := 10000) (i := i) (fun c _ => foodOf_bnd c) (by omega)
  refine ⟨fun h => ⟨by omega, fun c hc => ?_⟩, fun h => sumEnd h⟩
  have hf := foodOf_bnd c
  have e : min (max c.food 0) 10000 = foodOf c := by unfold foodOf; omega
  rw [e, wrap64 (by omega) (by omega), wrap64 (by omega) (by omega)]
  exact ⟨n - 1, by omega, i + 1, ⟨by rw [sumS hc], rfl⟩, by omega⟩
theorem spec_TotalFood (l : List DDepot) (hl : l.length ≤ 1048576) : SC Tryd.prog 44 [.at (.im 2 (l.map DDepot.row))] [] (.at (.v (.int .i64 (foodZ l)))) [] := by
  refine SC.of_V mixed Tryd.func44 (by kernel_rfl) rfl Tryd.results44 _ Tryd.ntmps44 (by simp) ?_
  simp -implicitDefEqProofs only [go_sem]
  refine T.loopW mixed [0, 3, 4] (fun mm vs es => ∃ (i : Nat), vs = [.at (.im 2 (l.map DDepot.row)), .at (.v (.int .i64 (sumT foodOf l i))), .at (.v (.int .i64 i))] ∧ es = [] ∧ mm + i = l.length) l.length ?_ ?_
  · simp -implicitDefEqProofs only [go_sem]; exact ⟨0, ⟨sum0.symm, rfl⟩, by omega⟩
  rintro n _ _ ⟨i, rfl, rfl, hn⟩
  simp -implicitDefEqProofs only [go_sem]
  have hb := sum_bound (f := foodOf) (l := l) (B := 10000) (i := i) (fun c _ => foodOf_bnd c) (by omega)
  refine ⟨fun h => ⟨by omega, fun c hc => ?_⟩, fun h => sumEnd h⟩
  refine callX [] (spec_Min 10000 c.food) (by simp -implicitDefEqProofs only [go_sem]) ?_
  simp -implicitDefEqProofs only [go_sem]
  refine callX [] (spec_Max 0 (min 10000 c.food)) (by simp -implicitDefEqProofs only [go_sem]) ?_
  simp -implicitDefEqProofs only [go_sem]
  have hf := foodOf_bnd c
  have e : max 0 (min 10000 c.food) = foodOf c := rfl
  rw [e, wrap64 (by omega) (by omega), wrap64 (by omega) (by omega)]
  exact ⟨n - 1, by omega, i + 1, ⟨by rw [sumS hc], rfl⟩, by omega⟩
def lostP (t : DTrek) : Prop := (0 ≤ t.given ∧ t.given ≤ 1000000) ∧ (0 ≤ t.eaten ∧ t.eaten ≤ 1000000) ∧ (0 ≤ t.party.food ∧ t.party.food ≤ 10000) ∧ t.given = t.eaten + t.party.food + foodZ t.depots
noncomputable instance (t : DTrek) : Decidable (lostP t) := Classical.propDecidable _
def DRule.Ok (r : DRule) : Prop := (1 ≤ r.window ∧ r.window ≤ 10) ∧ 0 ≤ r.most ∧ r.most ≤ r.window - 1
instance (r : DRule) : Decidable r.Ok := by unfold DRule.Ok; infer_instance
/-- The days that a window looks at. -/
def win (l : List Bool) (w e : Nat) : List Bool := (l.drop (e - w)).take (e - (e - w))
theorem win_0 {l : List Bool} {w : Nat} : win l w 0 = [] := by simp [win]
theorem win_len {l : List Bool} {w e : Nat} : (win l w e).length ≤ l.length := by simp [win]; omega
def KeepTo (r : DRule) (l : List Bool) (n : Nat) : Prop := ∀ e, e < n → stormZ (win l r.window.toNat e) ≤ r.most
def KeepsP (r : DRule) (l : List Bool) : Prop := r.Ok ∧ KeepTo r l (l.length + 1)
noncomputable instance (r : DRule) (l : List Bool) : Decidable (KeepsP r l) := Classical.propDecidable _
theorem keepS {r : DRule} {l : List Bool} {n : Nat} (h : KeepTo r l n) (h2 : stormZ (win l r.window.toNat n) ≤ r.most) : KeepTo r l (n + 1) := by
  intro e he
  by_cases h3 : e = n
  · rw [h3]; exact h2
  · exact h e (by omega)
theorem storm_nil : stormZ [] = 0 := by rfl
theorem win_last {l : List Bool} {w e : Nat} (h : e ≤ l.length) : (l.take e).drop (min e l.length - w) = win l w e := by
  rw [Nat.min_eq_left h, List.drop_take]; rfl
def writtenP (t : DTrek) : Prop := Journal t.journal ∧ (t.journal.length = 0 ∨ ((prevP t.journal t.journal.length).day = t.day ∧ (prevP t.journal t.journal.length).cell = t.party.at_))
noncomputable instance (t : DTrek) : Decidable (writtenP t) := Classical.propDecidable _
end Go.Abs
