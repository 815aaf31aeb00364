/- The hash, the seals, and what a journal is. -/
import Derived.Test.YtfdkpmbpnppllaaDoorALand
namespace Go.Abs
open Go.RowKit Go.Proofs
set_option linter.unusedVariables false
set_option linter.unusedSimpArgs false
set_option maxRecDepth 100000

def hashStep (d x : Int) : Int := (d * 1000003 + modZ x 2147483647 + 13) % 2147483647
def hashZ (l : List Int) : Int := l.foldl hashStep 11
theorem hashStep_bound (d x : Int) : 0 ≤ hashStep d x ∧ hashStep d x < 2147483647 := ⟨Int.emod_nonneg _ (by decide), Int.emod_lt_of_pos _ (by decide)⟩
theorem hashFold_bound (l : List Int) (d : Int) (h : 0 ≤ d ∧ d < 2147483647) : 0 ≤ l.foldl hashStep d ∧ l.foldl hashStep d < 2147483647 := by
  induction l generalizing d with
  | nil => exact h
  | cons x l ih => exact ih _ (hashStep_bound d x)
theorem hashZ_bound (l : List Int) : 0 ≤ hashZ l ∧ hashZ l < 2147483647 := hashFold_bound l 11 (by omega)
def hashT (l : List Int) (i : Nat) : Int := (l.take i).foldl hashStep 11
theorem hashT_step {l : List Int} {i : Nat} {x : Int} (h : l[i]? = some x) : hashT l (i + 1) = hashStep (hashT l i) x := by
  simp only [hashT, List.take_add_one, h, Option.toList_some, List.foldl_append, List.foldl_cons, List.foldl_nil]
theorem hashT_end {l : List Int} {i : Nat} (h : ¬ (i : Int) < l.length) : hashT l i = hashZ l := by
  rw [hashT, List.take_of_length_le (by omega)]; rfl
theorem modZ_small (x : Int) : 0 ≤ modZ x 2147483647 ∧ modZ x 2147483647 < 2147483647 := by
  rw [modZ, if_pos (by decide)]; exact ⟨Int.emod_nonneg _ (by decide), Int.emod_lt_of_pos _ (by decide)⟩
def sealZ (b : Int) (p : DPage) : Int := hashZ [b, p.day, p.cell, p.food]
theorem sealZ_bound (b : Int) (p : DPage) : 0 ≤ sealZ b p ∧ sealZ b p < 2147483647 := hashZ_bound _
/-- The page before a place. -/
def prevP (l : List DPage) (i : Nat) : DPage := if i = 0 then ⟨-1, 0, 0, 0⟩ else l.getD (i - 1) ⟨-1, 0, 0, 0⟩
theorem prevP_0 {l : List DPage} : prevP l 0 = ⟨-1, 0, 0, 0⟩ := rfl
theorem prevP_S {l : List DPage} {i : Nat} {p : DPage} (h : l[i]? = some p) : prevP l (i + 1) = p := by
  rw [prevP, if_neg (by omega), List.getD_eq_getElem?_getD, Nat.add_sub_cancel, h]; rfl
theorem prevP_get {l : List DPage} {i : Nat} {p : DPage} (h : l[i - 1]? = some p) (hi : 0 < i) : prevP l i = p := by
  rw [prevP, if_neg (by omega), List.getD_eq_getElem?_getD, h]; rfl
theorem prevP_64 {l : List DPage} (h : ∀ p ∈ l, p.wf) (i : Nat) : I64 (prevP l i).mark := by
  unfold prevP
  split
  · simp [I64]
  · rw [List.getD_eq_getElem?_getD]
    cases e : l[i - 1]? with
    | none => simp [I64]
    | some p => exact (h p (mem_get e)).2.2.2
def okP (l : List DPage) (i : Nat) (p : DPage) : Prop := ((prevP l i).day + 1 ≤ p.day ∧ p.day ≤ 10000) ∧ (0 ≤ p.cell ∧ p.cell ≤ 63) ∧ (0 ≤ p.food ∧ p.food ≤ 10000) ∧ p.mark = sealZ (prevP l i).mark p
/-- Pages are a journal. -/
def Journal (l : List DPage) : Prop := Each (okP l) l ∧ l.length ≤ 100
noncomputable instance (l : List DPage) : Decidable (Journal l) := Classical.propDecidable _
theorem prev_day {l : List DPage} {i : Nat} (h : EachTo (okP l) l i) : ∀ j, j ≤ i → -1 ≤ (prevP l j).day := by
  intro j
  induction j with
  | zero => intro _; simp [prevP_0]
  | succ j ih =>
    intro hj
    cases e : l[j]? with
    | none => rw [prevP, if_neg (by omega), List.getD_eq_getElem?_getD, Nat.add_sub_cancel, e]; simp
    | some p =>
      rw [prevP_S e]
      have := (h j p (by omega) e).1
      have := ih (by omega)
      omega
noncomputable def lowestZ (l : List DPage) : Int := if l.length = 0 ∨ ¬ Journal l then -1 else l.foldl (fun n p => min n p.food) (prevP l 1).food
def lowT (l : List DPage) (i : Nat) : Int := (l.take i).foldl (fun n p => min n p.food) (prevP l 1).food
theorem lowT_S {l : List DPage} {i : Nat} {p : DPage} (h : l[i]? = some p) : lowT l (i + 1) = min (lowT l i) p.food := by
  simp only [lowT, List.take_add_one, h, Option.toList_some, List.foldl_append, List.foldl_cons, List.foldl_nil]
theorem lowT_end {l : List DPage} {i : Nat} (h : ¬ (i : Int) < l.length) : lowT l i = l.foldl (fun n p => min n p.food) (prevP l 1).food := by
  rw [lowT, List.take_of_length_le (by omega)]
/-- The day of the first page with the cell. -/
def firstTo (c : Int) : List DPage → Int
  | [] => -1
  | p :: l => if p.cell = c then p.day else firstTo c l
noncomputable def firstZ (l : List DPage) (c : Int) : Int := if Journal l then firstTo c l else -1
end Go.Abs
