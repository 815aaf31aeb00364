/- Contracts of the laws' own helpers: sizes, copies, comparisons, marks. -/
import Derived.Test.YtmiajpljlkdhcaaGreatDoorAData
import Derived.Test.YtmiajpljlkdhcaaGreatDoorALibC
namespace Go.Abs
open Go.RowKit Go.Proofs
set_option linter.unusedVariables false
set_option linter.unusedSimpArgs false
set_option maxRecDepth 100000

def szL (n : Nat) (left : Int) : Int := if left - n < 0 then -1 else left - n
theorem szL_neg {n : Nat} {left : Int} (h : szL n left < 0) (h0 : 0 ≤ left) : left < n := by unfold szL at h; split at h <;> omega
theorem szL_pos {n : Nat} {left : Int} (h : ¬ szL n left < 0) : szL n left = left - n ∧ (n : Int) ≤ left := by unfold szL at h ⊢; split at h <;> simp_all <;> omega
theorem szL_szL {n k : Nat} {left : Int} (h : ¬ szL n left < 0) : szL k (szL n left) = szL (n + k) left := by
  have h1 := szL_pos h
  unfold szL at *
  split at h1 <;> simp_all <;> split <;> split <;> omega
theorem szL_neg' {n k : Nat} {left : Int} (h : szL n left < 0) (h0 : 0 ≤ left) : szL (n + k) left = -1 := by have := szL_neg h h0; unfold szL; rw [if_pos (by omega)]
def Bnd (n : Nat) : Prop := n ≤ 1099511627776
theorem getD_set {β : Type} {R : List (List β)} {i : Nat} (h : i < R.length) {r : List β} : (R.set i r).getD i [] = r := by
  rw [List.getD_eq_getElem?_getD, List.getElem?_set_self h]; rfl
theorem drop_all {β : Type} {l : List β} {i : Nat} (h : ¬ (i : Int) < l.length) : l.drop i = [] := List.drop_of_length_le (by omega)
theorem eq_step {β : Type} [DecidableEq β] {a b : List β} {i : Nat} {p q : β} (ht : a.take i = b.take i) (hp : a[i]? = some p) (hq : b[i]? = some q) (h : p = q) : a.take (i + 1) = b.take (i + 1) := by
  rw [List.take_add_one, List.take_add_one, ht, hp, hq, h]
theorem eq_end {β : Type} [DecidableEq β] {a b : List β} {i : Nat} (hl : a.length = b.length) (ht : a.take i = b.take i) (h : ¬ (i : Int) < a.length) : a = b := by
  rw [List.take_of_length_le (by omega), List.take_of_length_le (by omega)] at ht; exact ht
theorem ne_step {β : Type} {a b : List β} {i : Nat} {p q : β} (hp : a[i]? = some p) (hq : b[i]? = some q) (h : p ≠ q) : a ≠ b := by
  rintro rfl; rw [hp] at hq; exact h (by simpa using hq)

def markInt (k : Int) : List Value := [.int .i64 k]
attribute [go_sem] markInt
def markBool (k : Int) : List Value := [.bool (decide (k.tmod 3 = 0))]
attribute [go_sem] markBool
def markPage (k : Int) : List Value := [.int .i64 k, .int .i64 (k + 1), .int .i64 (k + 2), .int .i64 (k + 3)]
attribute [go_sem] markPage
def markEvent (k : Int) : List Value := [.int .i64 k, .int .i64 (k + 1), .bool (decide (Int.tmod (k + 2) 3 = 0))]
attribute [go_sem] markEvent
def markMember (k : Int) : List Value := [.int .i64 k, .int .i64 (k + 1), .int .i64 (k + 2), .bool (decide (Int.tmod (k + 3) 3 = 0))]
attribute [go_sem] markMember
def markDepot (k : Int) : List Value := [.int .i64 k, .int .i64 (k + 1)]
attribute [go_sem] markDepot

theorem szL_lt {n : Nat} {left : Int} (h : szL n left < 0) : szL n left = -1 := by unfold szL at *; split <;> simp_all
theorem szL_in {n : Nat} {left : Int} (h : ¬ szL n left < 0) (h2 : left ≤ 1048576) : 0 ≤ szL n left ∧ szL n left ≤ 1048576 := by have := szL_pos h; omega
theorem szL_over {n k : Nat} {left : Int} (h : szL n left < 0) (h0 : 0 ≤ left) : szL n left = szL (n + k) left := by rw [szL_lt h, szL_neg' h h0]

end Go.Abs
