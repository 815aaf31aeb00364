/- Food in the depots, the rule of storms, and what a trek's books say. -/
import Derived.Test.YtlhlgcghfidglaaAJournal
import Derived.Test.YtlhlgcghfidglaaACount
namespace Go.Abs
open Go.RowKit Go.Proofs
set_option linter.unusedVariables false
set_option linter.unusedSimpArgs false
set_option maxRecDepth 100000

def foodOf (d : DDepot) : Int := max 0 (min 10000 d.food)
def foodZ (l : List DDepot) : Int := sumL foodOf l
theorem foodOf_bnd (d : DDepot) : 0 ≤ foodOf d ∧ foodOf d ≤ 10000 := by unfold foodOf; omega
theorem foodZ_bnd (l : List DDepot) : 0 ≤ foodZ l ∧ foodZ l ≤ 10000 * l.length := by
  have := sum_all (f := foodOf) (l := l) (B := 10000) (fun c _ => foodOf_bnd c)
  unfold foodZ; omega
def lostP (t : DTrek) : Prop := (0 ≤ t.given ∧ t.given ≤ 1000000) ∧ (0 ≤ t.eaten ∧ t.eaten ≤ 1000000) ∧ (0 ≤ t.party.food ∧ t.party.food ≤ 10000) ∧ t.given = t.eaten + t.party.food + foodZ t.depots
noncomputable instance (t : DTrek) : Decidable (lostP t) := Classical.propDecidable _
def DRule.Ok (r : DRule) : Prop := (1 ≤ r.window ∧ r.window ≤ 10) ∧ 0 ≤ r.most ∧ r.most ≤ r.window - 1
instance (r : DRule) : Decidable r.Ok := by unfold DRule.Ok; infer_instance
theorem impl_IsRule (r : DRule) : SC Try.prog 81 [.ag r.ats] [] (.at (.v (.bool (decide r.Ok)))) [] := by
  refine SC.of_V mixed Try.func81 (by kernel_rfl) rfl Try.results81 _ Try.ntmps81 (by simp) ?_
  simp -implicitDefEqProofs only [go_sem]
  refine callX [] (impl_InRange r.window 1 10) (by simp -implicitDefEqProofs only [go_sem]) ?_
  simp -implicitDefEqProofs only [go_sem]
  refine ⟨fun h1 => ?_, fun h1 => dec_f fun h => h1 h.1⟩
  rw [wrap64 (by omega) (by omega)]
  refine callX [] (impl_InRange r.most 0 (r.window - 1)) (by simp -implicitDefEqProofs only [go_sem]) ?_
  simp -implicitDefEqProofs only [go_sem]
  exact decide_eq_decide.2 ⟨fun h => ⟨h1, h⟩, fun h => h.2⟩
theorem spec_IsRule (r : DRule) : SC Try.prog 73 [.ag r.ats] [] (.at (.v (.bool (decide r.Ok)))) [] := by
  refine SC.of_V mixed Try.func73 (by kernel_rfl) rfl Try.results73 _ Try.ntmps73 (by simp) ?_
  simp -implicitDefEqProofs only [go_sem]
  refine callX [] (spec_l1In r.window 1 10) (by simp -implicitDefEqProofs only [go_sem]) ?_
  simp -implicitDefEqProofs only [go_sem]
  refine ⟨fun h1 => ?_, fun h1 => dec_f fun h => h1 h.1⟩
  rw [wrap64 (by omega) (by omega)]
  refine callX [] (spec_l1In r.most 0 (r.window - 1)) (by simp -implicitDefEqProofs only [go_sem]) ?_
  simp -implicitDefEqProofs only [go_sem]
  exact decide_eq_decide.2 ⟨fun h => ⟨h1, h⟩, fun h => h.2⟩
/-- The days that a window looks at. -/
def win (l : List Bool) (w e : Nat) : List Bool := (l.drop (e - w)).take (e - (e - w))
theorem win_0 {l : List Bool} {w : Nat} : win l w 0 = [] := by simp [win]
theorem win_len {l : List Bool} {w e : Nat} : (win l w e).length ≤ l.length := by simp [win]; omega
def KeepTo (r : DRule) (l : List Bool) (n : Nat) : Prop := ∀ e, e < n → stormZ (win l r.window.toNat e) ≤ r.most
def KeepsP (r : DRule) (l : List Bool) : Prop := r.Ok ∧ KeepTo r l (l.length + 1)
noncomputable instance (r : DRule) (l : List Bool) : Decidable (KeepsP r l) := Classical.propDecidable _
theorem keepS {r : DRule} {l : List Bool} {n : Nat} (h : KeepTo r l n) (h2 : stormZ (win l r.window.toNat n) ≤ r.most) : KeepTo r l (n + 1) := by
  intro e he
  by_cases h3 : e = n
  · rw [h3]; exact h2
  · exact h e (by omega)
theorem storm_nil : stormZ [] = 0 := by rfl
theorem impl_last (l : List Bool) (n : Int) (hl : l.length ≤ 1048576) (hn : 0 ≤ n ∧ n ≤ 1048576) : SC Try.prog 83 [.at (.im 1 (l.map boolRow)), .at (.v (.int .i64 n))] [] (.at (.im 1 ((l.drop (l.length - n.toNat)).map boolRow))) [] := by
  refine SC.of_W mixed Try.func83 (by kernel_rfl) rfl Try.results83 _ Try.ntmps83 (by simp) ?_
  simp -implicitDefEqProofs only [go_sem]
  rw [wrap64 (by omega) (by omega)]
  refine ⟨by omega, ?_⟩
  rw [← List.map_drop, List.take_of_length_le (by simp only [List.length_map, List.length_drop]; omega), show (max ((l.length : Int) - n) 0).toNat = l.length - n.toNat by omega]
theorem win_last {l : List Bool} {w e : Nat} (h : e ≤ l.length) : (l.take e).drop (min e l.length - w) = win l w e := by
  rw [Nat.min_eq_left h, List.drop_take]; rfl
def writtenP (t : DTrek) : Prop := Journal t.journal ∧ (t.journal.length = 0 ∨ ((prevP t.journal t.journal.length).day = t.day ∧ (prevP t.journal t.journal.length).cell = t.party.at_))
noncomputable instance (t : DTrek) : Decidable (writtenP t) := Classical.propDecidable _
end Go.Abs
