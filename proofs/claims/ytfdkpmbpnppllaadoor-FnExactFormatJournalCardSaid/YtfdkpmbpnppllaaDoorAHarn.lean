/- Contracts of the laws' own helpers: sizes, copies, comparisons, marks. -/
import Derived.Test.YtfdkpmbpnppllaaDoorAData
import Derived.Test.YtfdkpmbpnppllaaDoorALibC
namespace Go.Abs
open Go.RowKit Go.Proofs
set_option linter.unusedVariables false
set_option linter.unusedSimpArgs false
set_option maxRecDepth 100000

def szL (n : Nat) (left : Int) : Int := if left - n < 0 then -1 else left - n
theorem szL_neg {n : Nat} {left : Int} (h : szL n left < 0) (h0 : 0 ≤ left) : left < n := by unfold szL at h; split at h <;> omega
theorem szL_pos {n : Nat} {left : Int} (h : ¬ szL n left < 0) : szL n left = left - n ∧ (n : Int) ≤ left := by unfold szL at h ⊢; split at h <;> simp_all <;> omega
theorem szL_szL {n k : Nat} {left : Int} (h : ¬ szL n left < 0) : szL k (szL n left) = szL (n + k) left := by
  have h1 := szL_pos h
  unfold szL at *
  split at h1 <;> simp_all <;> split <;> split <;> omega
theorem szL_neg' {n k : Nat} {left : Int} (h : szL n left < 0) (h0 : 0 ≤ left) : szL (n + k) left = -1 := by have := szL_neg h h0; unfold szL; rw [if_pos (by omega)]
def Bnd (n : Nat) : Prop := n ≤ 1099511627776
theorem getD_set {β : Type} {R : List (List β)} {i : Nat} (h : i < R.length) {r : List β} : (R.set i r).getD i [] = r := by
  rw [List.getD_eq_getElem?_getD, List.getElem?_set_self h]; rfl
theorem drop_all {β : Type} {l : List β} {i : Nat} (h : ¬ (i : Int) < l.length) : l.drop i = [] := List.drop_of_length_le (by omega)
theorem eq_step {β : Type} [DecidableEq β] {a b : List β} {i : Nat} {p q : β} (ht : a.take i = b.take i) (hp : a[i]? = some p) (hq : b[i]? = some q) (h : p = q) : a.take (i + 1) = b.take (i + 1) := by
  rw [List.take_add_one, List.take_add_one, ht, hp, hq, h]
theorem eq_end {β : Type} [DecidableEq β] {a b : List β} {i : Nat} (hl : a.length = b.length) (ht : a.take i = b.take i) (h : ¬ (i : Int) < a.length) : a = b := by
  rw [List.take_of_length_le (by omega), List.take_of_length_le (by omega)] at ht; exact ht
theorem ne_step {β : Type} {a b : List β} {i : Nat} {p q : β} (hp : a[i]? = some p) (hq : b[i]? = some q) (h : p ≠ q) : a ≠ b := by
  rintro rfl; rw [hp] at hq; exact h (by simpa using hq)

theorem laws_szIntS (l : List Int) (left : Int) (h1 : 0 ≤ left) (h2 : left ≤ 1048576) (hl : l.length ≤ maxLen) : SC Tryd.prog 36 [.at (.im 1 (l.map intRow)), .at (.v (.int .i64 left))] [] (.at (.v (.int .i64 (szL l.length left)))) [] := by
  have hm : l.length ≤ 9223372036854775807 := Nat.le_trans hl (by decide)
  refine SC.of_V mixed Tryd.func36 (by kernel_rfl) rfl Tryd.results36 _ Tryd.ntmps36 (by simp) ?_
  simp -implicitDefEqProofs only [go_sem]
  rw [wrap64 (by omega) (by omega)]
  exact ⟨fun h => by rw [szL, if_pos h], fun h => by rw [szL, if_neg h]⟩
theorem laws_toIntS (l : List Int) (hl : l.length ≤ 1048576) : SC Tryd.prog 9 [.at (.im 1 (l.map intRow))] [] (.at (.fr 1 (l.map intRow))) [] := by
  refine SC.of_W mixed Tryd.func9 (by kernel_rfl) rfl Tryd.results9 _ Tryd.ntmps9 (by simp) ?_
  simp -implicitDefEqProofs only [go_sem]
  refine ⟨by omega, ?_⟩
  refine T.loopW mixed [0, 3, 4] (fun mm vs es => ∃ (i : Nat), vs = [.at (.im 1 (l.map intRow)), .at (.ow 100 0 1 l.length), .at (.v (.int .i64 i))] ∧ es = [.arr 0 1 ((l.take i).map intRow ++ List.replicate (l.length - i) [.int .i64 0])] ∧ mm + i = l.length) l.length ?_ ?_
  · simp -implicitDefEqProofs only [go_sem]
    exact ⟨0, by simp, by simp, by omega⟩
  rintro n _ _ ⟨i, rfl, rfl, hn⟩
  simp -implicitDefEqProofs only [go_sem]
  refine ⟨fun h => ⟨by omega, fun p hp => ⟨by omega, by first | omega | (simp; omega), ?_⟩⟩, fun h => ?_⟩
  · skip
    rw [wrap64 (by omega) (by omega)]
    have e1 := fill_get (f := intRow) (z := [.int .i64 0]) (show i < l.length by omega)
    have e2 := set_fill (f := intRow) (z := [.int .i64 0]) hp
    simp only [intRow] at e1 e2
    rw [e1]
    simp -implicitDefEqProofs only [go_sem]
    rw [e2]
    exact ⟨n - 1, by omega, i + 1, by simp, rfl, by omega⟩
  · have : i = l.length := by omega
    subst this
    simp
theorem laws_eqIntS (a b : List Int) (ha : a.length ≤ 1099511627776) : SC Tryd.prog 11 [.at (.im 1 (a.map intRow)), .at (.im 1 (b.map intRow))] [] (.at (.v (.bool (decide (a = b))))) [] := by
  refine SC.of_V mixed Tryd.func11 (by kernel_rfl) rfl Tryd.results11 _ Tryd.ntmps11 (by simp) ?_
  simp -implicitDefEqProofs only [go_sem]
  refine ⟨fun h => ?_, fun h => ?_⟩
  · simp; rintro rfl; exact h rfl
  have hl : a.length = b.length := by omega
  refine T.loopW mixed [0, 1, 5] (fun mm vs es => ∃ (i : Nat), vs = [.at (.im 1 (a.map intRow)), .at (.im 1 (b.map intRow)), .at (.v (.int .i64 i))] ∧ es = [] ∧ mm + i = a.length ∧ a.take i = b.take i) a.length ?_ ?_
  · simp -implicitDefEqProofs only [go_sem]; exact ⟨0, rfl, by omega, by simp⟩
  rintro n _ _ ⟨i, rfl, rfl, hn, ht⟩
  simp -implicitDefEqProofs only [go_sem]
  refine ⟨fun h => ?_, fun h => ?_⟩
  · refine ⟨some [], by decide +kernel, ?_⟩
    simp -implicitDefEqProofs only [go_sem]
    refine ⟨by omega, fun p hp => ⟨by omega, fun q hq => ?_⟩⟩
    skip
    refine ⟨fun hpq => ?_, fun hpq => ?_⟩
    · have := ne_step hp hq (by simpa using hpq)
      simp [this]
    · rw [wrap64 (by omega) (by omega)]
      exact ⟨n - 1, by omega, i + 1, rfl, by omega, eq_step ht hp hq (by simpa using hpq)⟩
  · have := eq_end hl ht h
    simp [this]
def markInt (k : Int) : List Value := [.int .i64 k]
attribute [go_sem] markInt
theorem laws_szBoolS (l : List Bool) (left : Int) (h1 : 0 ≤ left) (h2 : left ≤ 1048576) (hl : l.length ≤ maxLen) : SC Tryd.prog 55 [.at (.im 1 (l.map boolRow)), .at (.v (.int .i64 left))] [] (.at (.v (.int .i64 (szL l.length left)))) [] := by
  have hm : l.length ≤ 9223372036854775807 := Nat.le_trans hl (by decide)
  refine SC.of_V mixed Tryd.func55 (by kernel_rfl) rfl Tryd.results55 _ Tryd.ntmps55 (by simp) ?_
  simp -implicitDefEqProofs only [go_sem]
  rw [wrap64 (by omega) (by omega)]
  exact ⟨fun h => by rw [szL, if_pos h], fun h => by rw [szL, if_neg h]⟩
theorem laws_toBoolS (l : List Bool) (hl : l.length ≤ 1048576) : SC Tryd.prog 59 [.at (.im 1 (l.map boolRow))] [] (.at (.fr 1 (l.map boolRow))) [] := by
  refine SC.of_W mixed Tryd.func59 (by kernel_rfl) rfl Tryd.results59 _ Tryd.ntmps59 (by simp) ?_
  simp -implicitDefEqProofs only [go_sem]
  refine ⟨by omega, ?_⟩
  refine T.loopW mixed [0, 3, 4] (fun mm vs es => ∃ (i : Nat), vs = [.at (.im 1 (l.map boolRow)), .at (.ow 100 0 1 l.length), .at (.v (.int .i64 i))] ∧ es = [.arr 0 1 ((l.take i).map boolRow ++ List.replicate (l.length - i) [.bool false])] ∧ mm + i = l.length) l.length ?_ ?_
  · simp -implicitDefEqProofs only [go_sem]
    exact ⟨0, by simp, by simp, by omega⟩
  rintro n _ _ ⟨i, rfl, rfl, hn⟩
  simp -implicitDefEqProofs only [go_sem]
  refine ⟨fun h => ⟨by omega, fun p hp => ⟨by omega, by first | omega | (simp; omega), ?_⟩⟩, fun h => ?_⟩
  · skip
    rw [wrap64 (by omega) (by omega)]
    have e1 := fill_get (f := boolRow) (z := [.bool false]) (show i < l.length by omega)
    have e2 := set_fill (f := boolRow) (z := [.bool false]) hp
    simp only [boolRow] at e1 e2
    rw [e1]
    simp -implicitDefEqProofs only [go_sem]
    rw [e2]
    exact ⟨n - 1, by omega, i + 1, by simp, rfl, by omega⟩
  · have : i = l.length := by omega
    subst this
    simp
theorem laws_eqBoolS (a b : List Bool) (ha : a.length ≤ 1099511627776) : SC Tryd.prog 61 [.at (.im 1 (a.map boolRow)), .at (.im 1 (b.map boolRow))] [] (.at (.v (.bool (decide (a = b))))) [] := by
  refine SC.of_V mixed Tryd.func61 (by kernel_rfl) rfl Tryd.results61 _ Tryd.ntmps61 (by simp) ?_
  simp -implicitDefEqProofs only [go_sem]
  refine ⟨fun h => ?_, fun h => ?_⟩
  · simp; rintro rfl; exact h rfl
  have hl : a.length = b.length := by omega
  refine T.loopW mixed [0, 1, 5] (fun mm vs es => ∃ (i : Nat), vs = [.at (.im 1 (a.map boolRow)), .at (.im 1 (b.map boolRow)), .at (.v (.int .i64 i))] ∧ es = [] ∧ mm + i = a.length ∧ a.take i = b.take i) a.length ?_ ?_
  · simp -implicitDefEqProofs only [go_sem]; exact ⟨0, rfl, by omega, by simp⟩
  rintro n _ _ ⟨i, rfl, rfl, hn, ht⟩
  simp -implicitDefEqProofs only [go_sem]
  refine ⟨fun h => ?_, fun h => ?_⟩
  · refine ⟨some [], by decide +kernel, ?_⟩
    simp -implicitDefEqProofs only [go_sem]
    refine ⟨by omega, fun p hp => ⟨by omega, fun q hq => ?_⟩⟩
    skip
    refine ⟨fun hpq => ?_, fun hpq => ?_⟩
    · have := ne_step hp hq (by simpa using hpq)
      simp [this]
    · rw [wrap64 (by omega) (by omega)]
      exact ⟨n - 1, by omega, i + 1, rfl, by omega, eq_step ht hp hq (by simpa using hpq)⟩
  · have := eq_end hl ht h
    simp [this]
def markBool (k : Int) : List Value := [.bool (decide (k.tmod 3 = 0))]
attribute [go_sem] markBool
theorem laws_szPageS (l : List DPage) (left : Int) (h1 : 0 ≤ left) (h2 : left ≤ 1048576) (hl : l.length ≤ maxLen) : SC Tryd.prog 22 [.at (.im 4 (l.map DPage.row)), .at (.v (.int .i64 left))] [] (.at (.v (.int .i64 (szL l.length left)))) [] := by
  have hm : l.length ≤ 9223372036854775807 := Nat.le_trans hl (by decide)
  refine SC.of_V mixed Tryd.func22 (by kernel_rfl) rfl Tryd.results22 _ Tryd.ntmps22 (by simp) ?_
  simp -implicitDefEqProofs only [go_sem]
  rw [wrap64 (by omega) (by omega)]
  exact ⟨fun h => by rw [szL, if_pos h], fun h => by rw [szL, if_neg h]⟩
theorem laws_toPage (p : DPage) : SC Tryd.prog 41 [.ag p.ats] [] (.ag p.ats) [] := by
  refine SC.of_W mixed Tryd.func41 (by kernel_rfl) rfl Tryd.results41 _ Tryd.ntmps41 (by simp) ?_
  simp -implicitDefEqProofs only [go_sem]
theorem laws_toPageS (l : List DPage) (hl : l.length ≤ 1048576) : SC Tryd.prog 24 [.at (.im 4 (l.map DPage.row))] [] (.at (.fr 4 (l.map DPage.row))) [] := by
  refine SC.of_W mixed Tryd.func24 (by kernel_rfl) rfl Tryd.results24 _ Tryd.ntmps24 (by simp) ?_
  simp -implicitDefEqProofs only [go_sem]
  refine ⟨by omega, ?_⟩
  refine T.loopW mixed [0, 3, 4] (fun mm vs es => ∃ (i : Nat), vs = [.at (.im 4 (l.map DPage.row)), .at (.ow 100 0 4 l.length), .at (.v (.int .i64 i))] ∧ es = [.arr 0 4 ((l.take i).map DPage.row ++ List.replicate (l.length - i) [.int .i64 0, .int .i64 0, .int .i64 0, .int .i64 0])] ∧ mm + i = l.length) l.length ?_ ?_
  · simp -implicitDefEqProofs only [go_sem]
    exact ⟨0, by simp, by simp, by omega⟩
  rintro n _ _ ⟨i, rfl, rfl, hn⟩
  simp -implicitDefEqProofs only [go_sem]
  refine ⟨fun h => ⟨by omega, fun p hp => callX [] (laws_toPage p) (by simp -implicitDefEqProofs only [go_sem]) ?_⟩, fun h => ?_⟩
  · simp -implicitDefEqProofs only [go_sem]
    refine ⟨by omega, by first | omega | (simp; omega), ?_⟩
    rw [wrap64 (by omega) (by omega)]
    have e1 := fill_get (f := DPage.row) (z := [.int .i64 0, .int .i64 0, .int .i64 0, .int .i64 0]) (show i < l.length by omega)
    have e2 := set_fill (f := DPage.row) (z := [.int .i64 0, .int .i64 0, .int .i64 0, .int .i64 0]) hp
    simp only [DPage.row] at e1 e2
    rw [e1]
    simp -implicitDefEqProofs only [go_sem]
    rw [e2]
    exact ⟨n - 1, by omega, i + 1, by simp, rfl, by omega⟩
  · have : i = l.length := by omega
    subst this
    simp
theorem laws_eqPage (p q : DPage) : SC Tryd.prog 42 [.ag p.ats, .ag q.ats] [] (.at (.v (.bool (decide (p = q))))) [] := by
  refine SC.of_V mixed Tryd.func42 (by kernel_rfl) rfl Tryd.results42 _ Tryd.ntmps42 (by simp) ?_
  simp -implicitDefEqProofs only [go_sem]
  obtain ⟨a0, a1, a2, a3⟩ := p
  obtain ⟨b0, b1, b2, b3⟩ := q
  simp only [DPage.mk.injEq]
  grind
theorem laws_eqPageS (a b : List DPage) (ha : a.length ≤ 1099511627776) : SC Tryd.prog 26 [.at (.im 4 (a.map DPage.row)), .at (.im 4 (b.map DPage.row))] [] (.at (.v (.bool (decide (a = b))))) [] := by
  refine SC.of_V mixed Tryd.func26 (by kernel_rfl) rfl Tryd.results26 _ Tryd.ntmps26 (by simp) ?_
  simp -implicitDefEqProofs only [go_sem]
  refine ⟨fun h => ?_, fun h => ?_⟩
  · simp; rintro rfl; exact h rfl
  have hl : a.length = b.length := by omega
  refine T.loopW mixed [0, 1, 5] (fun mm vs es => ∃ (i : Nat), vs = [.at (.im 4 (a.map DPage.row)), .at (.im 4 (b.map DPage.row)), .at (.v (.int .i64 i))] ∧ es = [] ∧ mm + i = a.length ∧ a.take i = b.take i) a.length ?_ ?_
  · simp -implicitDefEqProofs only [go_sem]; exact ⟨0, rfl, by omega, by simp⟩
  rintro n _ _ ⟨i, rfl, rfl, hn, ht⟩
  simp -implicitDefEqProofs only [go_sem]
  refine ⟨fun h => ?_, fun h => ?_⟩
  · refine ⟨some [], by decide +kernel, ?_⟩
    simp -implicitDefEqProofs only [go_sem]
    refine ⟨by omega, fun p hp => ⟨by omega, fun q hq => callXQ [] (laws_eqPage p q) (by simp -implicitDefEqProofs only [go_sem]) ?_⟩⟩
    simp -implicitDefEqProofs only [go_sem]
    skip
    refine ⟨fun hpq => ?_, fun hpq => ?_⟩
    · have := ne_step hp hq (by simpa using hpq)
      simp [this]
    · rw [wrap64 (by omega) (by omega)]
      exact ⟨n - 1, by omega, i + 1, rfl, by omega, eq_step ht hp hq (by simpa using hpq)⟩
  · have := eq_end hl ht h
    simp [this]
def markPage (k : Int) : List Value := [.int .i64 k, .int .i64 (k + 1), .int .i64 (k + 2), .int .i64 (k + 3)]
attribute [go_sem] markPage
def markEvent (k : Int) : List Value := [.int .i64 k, .int .i64 (k + 1), .bool (decide (Int.tmod (k + 2) 3 = 0))]
attribute [go_sem] markEvent
theorem laws_szMemberS (l : List DMember) (left : Int) (h1 : 0 ≤ left) (h2 : left ≤ 1048576) (hl : l.length ≤ maxLen) : SC Tryd.prog 54 [.at (.im 4 (l.map DMember.row)), .at (.v (.int .i64 left))] [] (.at (.v (.int .i64 (szL l.length left)))) [] := by
  have hm : l.length ≤ 9223372036854775807 := Nat.le_trans hl (by decide)
  refine SC.of_V mixed Tryd.func54 (by kernel_rfl) rfl Tryd.results54 _ Tryd.ntmps54 (by simp) ?_
  simp -implicitDefEqProofs only [go_sem]
  rw [wrap64 (by omega) (by omega)]
  exact ⟨fun h => by rw [szL, if_pos h], fun h => by rw [szL, if_neg h]⟩
theorem laws_toMember (p : DMember) : SC Tryd.prog 68 [.ag p.ats] [] (.ag p.ats) [] := by
  refine SC.of_W mixed Tryd.func68 (by kernel_rfl) rfl Tryd.results68 _ Tryd.ntmps68 (by simp) ?_
  simp -implicitDefEqProofs only [go_sem]
theorem laws_toMemberS (l : List DMember) (hl : l.length ≤ 1048576) : SC Tryd.prog 58 [.at (.im 4 (l.map DMember.row))] [] (.at (.fr 4 (l.map DMember.row))) [] := by
  refine SC.of_W mixed Tryd.func58 (by kernel_rfl) rfl Tryd.results58 _ Tryd.ntmps58 (by simp) ?_
  simp -implicitDefEqProofs only [go_sem]
  refine ⟨by omega, ?_⟩
  refine T.loopW mixed [0, 3, 4] (fun mm vs es => ∃ (i : Nat), vs = [.at (.im 4 (l.map DMember.row)), .at (.ow 100 0 4 l.length), .at (.v (.int .i64 i))] ∧ es = [.arr 0 4 ((l.take i).map DMember.row ++ List.replicate (l.length - i) [.int .i64 0, .int .i64 0, .int .i64 0, .bool false])] ∧ mm + i = l.length) l.length ?_ ?_
  · simp -implicitDefEqProofs only [go_sem]
    exact ⟨0, by simp, by simp, by omega⟩
  rintro n _ _ ⟨i, rfl, rfl, hn⟩
  simp -implicitDefEqProofs only [go_sem]
  refine ⟨fun h => ⟨by omega, fun p hp => callX [] (laws_toMember p) (by simp -implicitDefEqProofs only [go_sem]) ?_⟩, fun h => ?_⟩
  · simp -implicitDefEqProofs only [go_sem]
    refine ⟨by omega, by first | omega | (simp; omega), ?_⟩
    rw [wrap64 (by omega) (by omega)]
    have e1 := fill_get (f := DMember.row) (z := [.int .i64 0, .int .i64 0, .int .i64 0, .bool false]) (show i < l.length by omega)
    have e2 := set_fill (f := DMember.row) (z := [.int .i64 0, .int .i64 0, .int .i64 0, .bool false]) hp
    simp only [DMember.row] at e1 e2
    rw [e1]
    simp -implicitDefEqProofs only [go_sem]
    rw [e2]
    exact ⟨n - 1, by omega, i + 1, by simp, rfl, by omega⟩
  · have : i = l.length := by omega
    subst this
    simp
theorem laws_eqMember (p q : DMember) : SC Tryd.prog 69 [.ag p.ats, .ag q.ats] [] (.at (.v (.bool (decide (p = q))))) [] := by
  refine SC.of_V mixed Tryd.func69 (by kernel_rfl) rfl Tryd.results69 _ Tryd.ntmps69 (by simp) ?_
  simp -implicitDefEqProofs only [go_sem]
  obtain ⟨a0, a1, a2, a3⟩ := p
  obtain ⟨b0, b1, b2, b3⟩ := q
  simp only [DMember.mk.injEq]
  grind
theorem laws_eqMemberS (a b : List DMember) (ha : a.length ≤ 1099511627776) : SC Tryd.prog 60 [.at (.im 4 (a.map DMember.row)), .at (.im 4 (b.map DMember.row))] [] (.at (.v (.bool (decide (a = b))))) [] := by
  refine SC.of_V mixed Tryd.func60 (by kernel_rfl) rfl Tryd.results60 _ Tryd.ntmps60 (by simp) ?_
  simp -implicitDefEqProofs only [go_sem]
  refine ⟨fun h => ?_, fun h => ?_⟩
  · simp; rintro rfl; exact h rfl
  have hl : a.length = b.length := by omega
  refine T.loopW mixed [0, 1, 5] (fun mm vs es => ∃ (i : Nat), vs = [.at (.im 4 (a.map DMember.row)), .at (.im 4 (b.map DMember.row)), .at (.v (.int .i64 i))] ∧ es = [] ∧ mm + i = a.length ∧ a.take i = b.take i) a.length ?_ ?_
  · simp -implicitDefEqProofs only [go_sem]; exact ⟨0, rfl, by omega, by simp⟩
  rintro n _ _ ⟨i, rfl, rfl, hn, ht⟩
  simp -implicitDefEqProofs only [go_sem]
  refine ⟨fun h => ?_, fun h => ?_⟩
  · refine ⟨some [], by decide +kernel, ?_⟩
    simp -implicitDefEqProofs only [go_sem]
    refine ⟨by omega, fun p hp => ⟨by omega, fun q hq => callXQ [] (laws_eqMember p q) (by simp -implicitDefEqProofs only [go_sem]) ?_⟩⟩
    simp -implicitDefEqProofs only [go_sem]
    skip
    refine ⟨fun hpq => ?_, fun hpq => ?_⟩
    · have := ne_step hp hq (by simpa using hpq)
      simp [this]
    · rw [wrap64 (by omega) (by omega)]
      exact ⟨n - 1, by omega, i + 1, rfl, by omega, eq_step ht hp hq (by simpa using hpq)⟩
  · have := eq_end hl ht h
    simp [this]
def markMember (k : Int) : List Value := [.int .i64 k, .int .i64 (k + 1), .int .i64 (k + 2), .bool (decide (Int.tmod (k + 3) 3 = 0))]
attribute [go_sem] markMember
theorem laws_szDepotS (l : List DDepot) (left : Int) (h1 : 0 ≤ left) (h2 : left ≤ 1048576) (hl : l.length ≤ maxLen) : SC Tryd.prog 17 [.at (.im 2 (l.map DDepot.row)), .at (.v (.int .i64 left))] [] (.at (.v (.int .i64 (szL l.length left)))) [] := by
  have hm : l.length ≤ 9223372036854775807 := Nat.le_trans hl (by decide)
  refine SC.of_V mixed Tryd.func17 (by kernel_rfl) rfl Tryd.results17 _ Tryd.ntmps17 (by simp) ?_
  simp -implicitDefEqProofs only [go_sem]
  rw [wrap64 (by omega) (by omega)]
  exact ⟨fun h => by rw [szL, if_pos h], fun h => by rw [szL, if_neg h]⟩
theorem laws_toDepot (p : DDepot) : SC Tryd.prog 39 [.ag p.ats] [] (.ag p.ats) [] := by
  refine SC.of_W mixed Tryd.func39 (by kernel_rfl) rfl Tryd.results39 _ Tryd.ntmps39 (by simp) ?_
  simp -implicitDefEqProofs only [go_sem]
theorem laws_toDepotS (l : List DDepot) (hl : l.length ≤ 1048576) : SC Tryd.prog 19 [.at (.im 2 (l.map DDepot.row))] [] (.at (.fr 2 (l.map DDepot.row))) [] := by
  refine SC.of_W mixed Tryd.func19 (by kernel_rfl) rfl Tryd.results19 _ Tryd.ntmps19 (by simp) ?_
  simp -implicitDefEqProofs only [go_sem]
  refine ⟨by omega, ?_⟩
  refine T.loopW mixed [0, 3, 4] (fun mm vs es => ∃ (i : Nat), vs = [.at (.im 2 (l.map DDepot.row)), .at (.ow 100 0 2 l.length), .at (.v (.int .i64 i))] ∧ es = [.arr 0 2 ((l.take i).map DDepot.row ++ List.replicate (l.length - i) [.int .i64 0, .int .i64 0])] ∧ mm + i = l.length) l.length ?_ ?_
  · simp -implicitDefEqProofs only [go_sem]
    exact ⟨0, by simp, by simp, by omega⟩
  rintro n _ _ ⟨i, rfl, rfl, hn⟩
  simp -implicitDefEqProofs only [go_sem]
  refine ⟨fun h => ⟨by omega, fun p hp => callX [] (laws_toDepot p) (by simp -implicitDefEqProofs only [go_sem]) ?_⟩, fun h => ?_⟩
  · simp -implicitDefEqProofs only [go_sem]
    refine ⟨by omega, by first | omega | (simp; omega), ?_⟩
    rw [wrap64 (by omega) (by omega)]
    have e1 := fill_get (f := DDepot.row) (z := [.int .i64 0, .int .i64 0]) (show i < l.length by omega)
    have e2 := set_fill (f := DDepot.row) (z := [.int .i64 0, .int .i64 0]) hp
    simp only [DDepot.row] at e1 e2
    rw [e1]
    simp -implicitDefEqProofs only [go_sem]
    rw [e2]
    exact ⟨n - 1, by omega, i + 1, by simp, rfl, by omega⟩
  · have : i = l.length := by omega
    subst this
    simp
theorem laws_eqDepot (p q : DDepot) : SC Tryd.prog 40 [.ag p.ats, .ag q.ats] [] (.at (.v (.bool (decide (p = q))))) [] := by
  refine SC.of_V mixed Tryd.func40 (by kernel_rfl) rfl Tryd.results40 _ Tryd.ntmps40 (by simp) ?_
  simp -implicitDefEqProofs only [go_sem]
  obtain ⟨a0, a1⟩ := p
  obtain ⟨b0, b1⟩ := q
  simp only [DDepot.mk.injEq]
  grind
theorem laws_eqDepotS (a b : List DDepot) (ha : a.length ≤ 1099511627776) : SC Tryd.prog 21 [.at (.im 2 (a.map DDepot.row)), .at (.im 2 (b.map DDepot.row))] [] (.at (.v (.bool (decide (a = b))))) [] := by
  refine SC.of_V mixed Tryd.func21 (by kernel_rfl) rfl Tryd.results21 _ Tryd.ntmps21 (by simp) ?_
  simp -implicitDefEqProofs only [go_sem]
  refine ⟨fun h => ?_, fun h => ?_⟩
  · simp; rintro rfl; exact h rfl
  have hl : a.length = b.length := by omega
  refine T.loopW mixed [0, 1, 5] (fun mm vs es => ∃ (i : Nat), vs = [.at (.im 2 (a.map DDepot.row)), .at (.im 2 (b.map DDepot.row)), .at (.v (.int .i64 i))] ∧ es = [] ∧ mm + i = a.length ∧ a.take i = b.take i) a.length ?_ ?_
  · simp -implicitDefEqProofs only [go_sem]; exact ⟨0, rfl, by omega, by simp⟩
  rintro n _ _ ⟨i, rfl, rfl, hn, ht⟩
  simp -implicitDefEqProofs only [go_sem]
  refine ⟨fun h => ?_, fun h => ?_⟩
  · refine ⟨some [], by decide +kernel, ?_⟩
    simp -implicitDefEqProofs only [go_sem]
    refine ⟨by omega, fun p hp => ⟨by omega, fun q hq => callXQ [] (laws_eqDepot p q) (by simp -implicitDefEqProofs only [go_sem]) ?_⟩⟩
    simp -implicitDefEqProofs only [go_sem]
    skip
    refine ⟨fun hpq => ?_, fun hpq => ?_⟩
    · have := ne_step hp hq (by simpa using hpq)
      simp [this]
    · rw [wrap64 (by omega) (by omega)]
      exact ⟨n - 1, by omega, i + 1, rfl, by omega, eq_step ht hp hq (by simpa using hpq)⟩
  · have := eq_end hl ht h
    simp [this]
def markDepot (k : Int) : List Value := [.int .i64 k, .int .i64 (k + 1)]
attribute [go_sem] markDepot

theorem szL_lt {n : Nat} {left : Int} (h : szL n left < 0) : szL n left = -1 := by unfold szL at *; split <;> simp_all
theorem szL_in {n : Nat} {left : Int} (h : ¬ szL n left < 0) (h2 : left ≤ 1048576) : 0 ≤ szL n left ∧ szL n left ≤ 1048576 := by have := szL_pos h; omega
theorem szL_over {n k : Nat} {left : Int} (h : szL n left < 0) (h0 : 0 ≤ left) : szL n left = szL (n + k) left := by rw [szL_lt h, szL_neg' h h0]

theorem laws_szLand (x : DLand) (left : Int) (h1 : 0 ≤ left) (h2 : left ≤ 1048576) (hx : x.wf) : SC Tryd.prog 12 [.ag x.ats, .at (.v (.int .i64 left))] [] (.at (.v (.int .i64 (szL x.cells.length left)))) [] := by
  obtain ⟨_, _, _, hc⟩ := hx
  refine SC.of_V mixed Tryd.func12 (by kernel_rfl) rfl Tryd.results12 _ Tryd.ntmps12 (by simp) ?_
  simp -implicitDefEqProofs only [go_sem]
  refine callX [] (laws_szIntS x.cells left h1 h2 hc) (by simp -implicitDefEqProofs only [go_sem]) ?_
  simp -implicitDefEqProofs only [go_sem]
  exact fun h => (szL_lt h).symm
theorem laws_szParty (x : DParty) (left : Int) (h1 : 0 ≤ left) (h2 : left ≤ 1048576) (hx : x.wf) : SC Tryd.prog 43 [.ag x.ats, .at (.v (.int .i64 left))] [] (.at (.v (.int .i64 (szL (x.crew.length + x.past.length) left)))) [] := by
  obtain ⟨_, _, _, hc, hp⟩ := hx
  refine SC.of_V mixed Tryd.func43 (by kernel_rfl) rfl Tryd.results43 _ Tryd.ntmps43 (by simp) ?_
  simp -implicitDefEqProofs only [go_sem]
  refine callX [] (laws_szMemberS x.crew left h1 h2 hc) (by simp -implicitDefEqProofs only [go_sem]) ?_
  simp -implicitDefEqProofs only [go_sem]
  refine ⟨fun h => by rw [szL_neg' h h1], fun h => ?_⟩
  have hi := szL_in h h2
  refine callX [] (laws_szBoolS x.past _ hi.1 hi.2 hp) (by simp -implicitDefEqProofs only [go_sem]) ?_
  simp -implicitDefEqProofs only [go_sem]
  rw [szL_szL h]
  exact ⟨fun h => (szL_lt h).symm, fun _ => rfl⟩
theorem laws_szTrek (x : DTrek) (left : Int) (h1 : 0 ≤ left) (h2 : left ≤ 1048576) (hx : x.wf) : SC Tryd.prog 27 [.ag x.ats, .at (.v (.int .i64 left))] [] (.at (.v (.int .i64 (szL (x.land.cells.length + x.depots.length + (x.party.crew.length + x.party.past.length) + x.journal.length) left)))) [] := by
  obtain ⟨hl, _, _, _, hd, hp, _, hj, _⟩ := hx
  refine SC.of_V mixed Tryd.func27 (by kernel_rfl) rfl Tryd.results27 _ Tryd.ntmps27 (by simp) ?_
  simp -implicitDefEqProofs only [go_sem]
  refine callX [] (laws_szLand x.land left h1 h2 hl) (by simp -implicitDefEqProofs only [go_sem]) ?_
  simp -implicitDefEqProofs only [go_sem]
  refine ⟨fun h => by rw [Nat.add_assoc, Nat.add_assoc, szL_neg' h h1], fun h => ?_⟩
  have hi := szL_in h h2
  refine callX [] (laws_szDepotS x.depots _ hi.1 hi.2 hd) (by simp -implicitDefEqProofs only [go_sem]) ?_
  simp -implicitDefEqProofs only [go_sem]
  rw [szL_szL h]
  clear h hi
  refine ⟨fun h => by rw [Nat.add_assoc, szL_neg' h h1], fun h => ?_⟩
  have hi := szL_in h h2
  refine callX [] (laws_szParty x.party _ hi.1 hi.2 hp) (by simp -implicitDefEqProofs only [go_sem]) ?_
  simp -implicitDefEqProofs only [go_sem]
  rw [szL_szL h]
  clear h hi
  refine ⟨fun h => by rw [szL_neg' h h1], fun h => ?_⟩
  have hi := szL_in h h2
  refine callX [] (laws_szPageS x.journal _ hi.1 hi.2 hj) (by simp -implicitDefEqProofs only [go_sem]) ?_
  simp -implicitDefEqProofs only [go_sem]
  rw [szL_szL h]
  exact ⟨fun h => (szL_lt h).symm, fun _ => rfl⟩
theorem laws_toLand (x : DLand) (h : x.cells.length ≤ 1048576) : SC Tryd.prog 14 [.ag x.ats] [] (.ag x.frs) [] := by
  refine SC.of_W mixed Tryd.func14 (by kernel_rfl) rfl Tryd.results14 _ Tryd.ntmps14 (by simp) ?_
  simp -implicitDefEqProofs only [go_sem]
  refine callX [] (laws_toIntS x.cells h) (by simp -implicitDefEqProofs only [go_sem]) ?_
  simp -implicitDefEqProofs only [go_sem]
theorem laws_toRule (x : DRule) : SC Tryd.prog 45 [.ag x.ats] [] (.ag x.ats) [] := by
  refine SC.of_W mixed Tryd.func45 (by kernel_rfl) rfl Tryd.results45 _ Tryd.ntmps45 (by simp) ?_
  simp -implicitDefEqProofs only [go_sem]
theorem laws_toParty (x : DParty) (h : x.crew.length ≤ 1048576) (h2 : x.past.length ≤ 1048576) : SC Tryd.prog 46 [.ag x.ats] [] (.ag x.frs) [] := by
  refine SC.of_W mixed Tryd.func46 (by kernel_rfl) rfl Tryd.results46 _ Tryd.ntmps46 (by simp) ?_
  simp -implicitDefEqProofs only [go_sem]
  refine callX [] (laws_toMemberS x.crew h) (by simp -implicitDefEqProofs only [go_sem]) ?_
  simp -implicitDefEqProofs only [go_sem]
  refine callX [] (laws_toBoolS x.past h2) (by simp -implicitDefEqProofs only [go_sem]) ?_
  simp -implicitDefEqProofs only [go_sem]
theorem laws_toTrek (x : DTrek) (h : x.land.cells.length + x.depots.length + (x.party.crew.length + x.party.past.length) + x.journal.length ≤ 1048576) : SC Tryd.prog 29 [.ag x.ats] [] (.ag x.frs) [] := by
  refine SC.of_W mixed Tryd.func29 (by kernel_rfl) rfl Tryd.results29 _ Tryd.ntmps29 (by simp) ?_
  simp -implicitDefEqProofs only [go_sem]
  refine callX [] (laws_toLand x.land (by omega)) (by simp -implicitDefEqProofs only [go_sem]) ?_
  simp -implicitDefEqProofs only [go_sem]
  refine callX [] (laws_toRule x.rule) (by simp -implicitDefEqProofs only [go_sem]) ?_
  simp -implicitDefEqProofs only [go_sem]
  refine callX [] (laws_toDepotS x.depots (by omega)) (by simp -implicitDefEqProofs only [go_sem]) ?_
  simp -implicitDefEqProofs only [go_sem]
  refine callX [] (laws_toParty x.party (by omega) (by omega)) (by simp -implicitDefEqProofs only [go_sem]) ?_
  simp -implicitDefEqProofs only [go_sem]
  refine callX [] (laws_toPageS x.journal (by omega)) (by simp -implicitDefEqProofs only [go_sem]) ?_
  simp -implicitDefEqProofs only [go_sem]
theorem laws_eqLand (a b : DLand) (ha : a.cells.length ≤ 1099511627776) : SC Tryd.prog 16 [.ag a.ats, .ag b.ats] [] (.at (.v (.bool (decide (a = b))))) [] := by
  refine SC.of_V mixed Tryd.func16 (by kernel_rfl) rfl Tryd.results16 _ Tryd.ntmps16 (by simp) ?_
  simp -implicitDefEqProofs only [go_sem]
  refine ⟨fun h => ?_, fun h1 => ⟨fun h => ?_, fun h2 => ?_⟩⟩
  · exact (decide_eq_false (by rintro rfl; exact h rfl)).symm
  · exact (decide_eq_false (by rintro rfl; exact h rfl)).symm
  refine callX [] (laws_eqIntS a.cells b.cells ha) (by simp -implicitDefEqProofs only [go_sem]) ?_
  simp -implicitDefEqProofs only [go_sem]
  obtain ⟨a1, a2, a3⟩ := a; obtain ⟨b1, b2, b3⟩ := b
  simp only [DLand.mk.injEq] at *
  grind
theorem laws_eqRule (a b : DRule) : SC Tryd.prog 48 [.ag a.ats, .ag b.ats] [] (.at (.v (.bool (decide (a = b))))) [] := by
  refine SC.of_V mixed Tryd.func48 (by kernel_rfl) rfl Tryd.results48 _ Tryd.ntmps48 (by simp) ?_
  simp -implicitDefEqProofs only [go_sem]
  obtain ⟨a1, a2⟩ := a; obtain ⟨b1, b2⟩ := b
  simp only [DRule.mk.injEq]
  grind
theorem laws_eqParty (a b : DParty) (ha : a.crew.length ≤ 1099511627776) (ha2 : a.past.length ≤ 1099511627776) : SC Tryd.prog 49 [.ag a.ats, .ag b.ats] [] (.at (.v (.bool (decide (a = b))))) [] := by
  refine SC.of_V mixed Tryd.func49 (by kernel_rfl) rfl Tryd.results49 _ Tryd.ntmps49 (by simp) ?_
  simp -implicitDefEqProofs only [go_sem]
  refine ⟨fun h => ?_, fun h1 => ⟨fun h => ?_, fun h2 => ?_⟩⟩
  · exact (decide_eq_false (by rintro rfl; exact h rfl)).symm
  · exact (decide_eq_false (by rintro rfl; exact h rfl)).symm
  refine callX [] (laws_eqMemberS a.crew b.crew ha) (by simp -implicitDefEqProofs only [go_sem]) ?_
  simp -implicitDefEqProofs only [go_sem]
  refine ⟨fun h => ?_, fun h3 => ?_⟩
  · exact (decide_eq_false (by rintro rfl; exact h rfl)).symm
  refine callX [] (laws_eqBoolS a.past b.past ha2) (by simp -implicitDefEqProofs only [go_sem]) ?_
  simp -implicitDefEqProofs only [go_sem]
  obtain ⟨a1, a2, a3, a4⟩ := a; obtain ⟨b1, b2, b3, b4⟩ := b
  simp only [DParty.mk.injEq] at *
  grind
theorem laws_eqTrek (a b : DTrek) (h1 : a.land.cells.length ≤ 1099511627776) (h2 : a.depots.length ≤ 1099511627776) (h3 : a.party.crew.length ≤ 1099511627776) (h4 : a.party.past.length ≤ 1099511627776) (h5 : a.journal.length ≤ 1099511627776) : SC Tryd.prog 31 [.ag a.ats, .ag b.ats] [] (.at (.v (.bool (decide (a = b))))) [] := by
  refine SC.of_V mixed Tryd.func31 (by kernel_rfl) rfl Tryd.results31 _ Tryd.ntmps31 (by simp) ?_
  simp -implicitDefEqProofs only [go_sem]
  refine callX [] (laws_eqLand a.land b.land h1) (by simp -implicitDefEqProofs only [go_sem]) ?_
  simp -implicitDefEqProofs only [go_sem]
  refine ⟨fun h => ?_, fun e1 => ⟨fun h => ?_, fun e2 => ?_⟩⟩
  · exact (decide_eq_false (by rintro rfl; exact h rfl)).symm
  · exact (decide_eq_false (by rintro rfl; exact h rfl)).symm
  refine callX [] (laws_eqRule a.rule b.rule) (by simp -implicitDefEqProofs only [go_sem]) ?_
  simp -implicitDefEqProofs only [go_sem]
  refine ⟨fun h => ?_, fun e3 => ?_⟩
  · exact (decide_eq_false (by rintro rfl; exact h rfl)).symm
  refine callX [] (laws_eqDepotS a.depots b.depots h2) (by simp -implicitDefEqProofs only [go_sem]) ?_
  simp -implicitDefEqProofs only [go_sem]
  refine ⟨fun h => ?_, fun e4 => ?_⟩
  · exact (decide_eq_false (by rintro rfl; exact h rfl)).symm
  refine callX [] (laws_eqParty a.party b.party h3 h4) (by simp -implicitDefEqProofs only [go_sem]) ?_
  simp -implicitDefEqProofs only [go_sem]
  refine ⟨fun h => ?_, fun e5 => ?_⟩
  · exact (decide_eq_false (by rintro rfl; exact h rfl)).symm
  refine callX [] (laws_eqPageS a.journal b.journal h5) (by simp -implicitDefEqProofs only [go_sem]) ?_
  simp -implicitDefEqProofs only [go_sem]
  obtain ⟨a1, a2, a3, a4, a5, a6, a7, a8, a9⟩ := a; obtain ⟨b1, b2, b3, b4, b5, b6, b7, b8, b9⟩ := b
  simp only [DTrek.mk.injEq] at *
  grind
end Go.Abs
