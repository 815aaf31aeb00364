import Derived.Test.YthobmgkagcampaaGreatDoorAData
import Derived.Test.YthobmgkagcampaaGreatDoorALibC
namespace Go.Abs
open Go.RowKit Go.Proofs
set_option linter.all false
set_option maxRecDepth 100000
def szL (n : Nat) (left : Int) : Int := if left - n < 0 then -1 else left - n
theorem szL_neg {n : Nat} {left : Int} (h : szL n left < 0) (h0 : 0 <= left) : left < n := by unfold szL at h; split at h <;> omega
theorem szL_pos {n : Nat} {left : Int} (h : ¬ szL n left < 0) : szL n left = left - n /\ (n : Int) <= left := by unfold szL at h ⊢; split at h <;> simp_all <;> omega
theorem szL_szL {n k : Nat} {left : Int} (h : ¬ szL n left < 0) : szL k (szL n left) = szL (n + k) left := by
 have h1 := szL_pos h
 unfold szL at *
 split at h1 <;> simp_all <;> split <;> split <;> omega
theorem szL_neg' {n k : Nat} {left : Int} (h : szL n left < 0) (h0 : 0 <= left) : szL (n + k) left = -1 := by have := szL_neg h h0; unfold szL; rw [if_pos (by omega)]
theorem getD_set {β : Type} {R : List (List β)} {i : Nat} (h : i < R.length) {r : List β} : (R.set i r).getD i [] = r := by
 rw [List.getD_eq_getElem?_getD, List.getElem?_set_self h]; rfl
theorem drop_all {β : Type} {l : List β} {i : Nat} (h : ¬ (i : Int) < l.length) : l.drop i = [] := List.drop_of_length_le (by omega)
theorem eq_step {β : Type} [DecidableEq β] {a b : List β} {i : Nat} {p q : β} (ht : a.take i = b.take i) (hp : a[i]? = some p) (hq : b[i]? = some q) (h : p = q) : a.take (i + 1) = b.take (i + 1) := by
 rw [List.take_add_one, List.take_add_one, ht, hp, hq, h]
theorem eq_end {β : Type} [DecidableEq β] {a b : List β} {i : Nat} (hl : a.length = b.length) (ht : a.take i = b.take i) (h : ¬ (i : Int) < a.length) : a = b := by
 rw [List.take_of_length_le (by omega), List.take_of_length_le (by omega)] at ht; exact ht
theorem ne_step {β : Type} {a b : List β} {i : Nat} {p q : β} (hp : a[i]? = some p) (hq : b[i]? = some q) (h : p ≠ q) : a ≠ b := by
 rintro rfl; rw [hp] at hq; exact h (by simpa using hq)
theorem laws_szIntS (l : List Int) (left : Int) (h1 : 0 <= left) (h2 : left <= 1048576) (hl : l.length <= maxLen) : SC Tryz.prog 115 [.at (.im 1 (l.map intRow)), .at (.v (.int .i64 left))] [] (.at (.v (.int .i64 (szL l.length left)))) [] := by
 have hm : l.length <= 9223372036854775807 := Nat.le_trans hl (by decide)
 refine SC.of_V mixed Tryz.func115 (by kernel_rfl) rfl Tryz.results115 _ Tryz.ntmps115 (by simp) ?_
 simp -implicitDefEqProofs only [go_sem]
 rw [wrap64 (by omega) (by omega)]
 exact ⟨fun h => by rw [szL, if_pos h], fun h => by rw [szL, if_neg h]⟩
theorem laws_toIntS (l : List Int) (hl : l.length <= 1048576) : SC Tryz.prog 140 [.at (.im 1 (l.map intRow))] [] (.at (.fr 1 (l.map intRow))) [] := by
 refine SC.of_W mixed Tryz.func140 (by kernel_rfl) rfl Tryz.results140 _ Tryz.ntmps140 (by simp) ?_
 simp -implicitDefEqProofs only [go_sem]
 refine ⟨by omega, ?_⟩
 refine T.loopW mixed [0, 3, 4] (fun mm vs es => ∃ (i : Nat), vs = [.at (.im 1 (l.map intRow)), .at (.ow 100 0 1 l.length), .at (.v (.int .i64 i))] /\ es = [.arr 0 1 ((l.take i).map intRow ++ List.replicate (l.length - i) [.int .i64 0])] /\ mm + i = l.length) l.length ?_ ?_
 ·simp -implicitDefEqProofs only [go_sem]
  exact ⟨0, by simp, by simp, by omega⟩
 rintro n _ _ ⟨i, rfl, rfl, hn⟩
 simp -implicitDefEqProofs only [go_sem]
 refine ⟨fun h => ⟨by omega, fun p hp => ⟨by omega, by first | omega | (simp; omega), ?_⟩⟩, fun h => ?_⟩
 ·skip
  rw [wrap64 (by omega) (by omega)]
  have e1 := fill_get (f := intRow) (z := [.int .i64 0]) (show i < l.length by omega)
  have e2 := set_fill (f := intRow) (z := [.int .i64 0]) hp
  simp only [intRow] at e1 e2
  rw [e1]
  simp -implicitDefEqProofs only [go_sem]
  rw [e2]
  exact ⟨n - 1, by omega, i + 1, by simp, rfl, by omega⟩
 ·have : i = l.length := by omega
  subst this
  simp
theorem laws_eqIntS (a b : List Int) (ha : a.length <= 1099511627776) : SC Tryz.prog 145 [.at (.im 1 (a.map intRow)), .at (.im 1 (b.map intRow))] [] (.at (.v (.bool (decide (a = b))))) [] := by
 refine SC.of_V mixed Tryz.func145 (by kernel_rfl) rfl Tryz.results145 _ Tryz.ntmps145 (by simp) ?_
 simp -implicitDefEqProofs only [go_sem]
 refine ⟨fun h => ?_, fun h => ?_⟩
 ·simp; rintro rfl; exact h rfl
 have hl : a.length = b.length := by omega
 refine T.loopW mixed [0, 1, 5] (fun mm vs es => ∃ (i : Nat), vs = [.at (.im 1 (a.map intRow)), .at (.im 1 (b.map intRow)), .at (.v (.int .i64 i))] /\ es = [] /\ mm + i = a.length /\ a.take i = b.take i) a.length ?_ ?_
 ·simp -implicitDefEqProofs only [go_sem]; exact ⟨0, rfl, by omega, by simp⟩
 rintro n _ _ ⟨i, rfl, rfl, hn, ht⟩
 simp -implicitDefEqProofs only [go_sem]
 refine ⟨fun h => ?_, fun h => ?_⟩
 ·refine ⟨some [], by decide +kernel, ?_⟩
  simp -implicitDefEqProofs only [go_sem]
  refine ⟨by omega, fun p hp => ⟨by omega, fun q hq => ?_⟩⟩
  skip
  refine ⟨fun hpq => ?_, fun hpq => ?_⟩
  ·have := ne_step hp hq (by simpa using hpq)
   simp [this]
  ·rw [wrap64 (by omega) (by omega)]
   exact ⟨n - 1, by omega, i + 1, rfl, by omega, eq_step ht hp hq (by simpa using hpq)⟩
 ·have := eq_end hl ht h
  simp [this]
def markInt (k : Int) : List Value := [.int .i64 k]
attribute [go_sem] markInt
theorem laws_markIntS (l : List Int) (k : Int) (h1 : 0 <= k) (h2 : k <= 1125899906842624) (hl : l.length <= 1099511627776) : SC Tryz.prog 150 [.at (.ow 0 0 1 l.length), .at (.v (.int .i64 k))] [.arr 0 1 (l.map intRow)] (.at (.v (.int .i64 (k + 1 * l.length)))) [.arr 0 1 (marks markInt 1 k l.length)] := by
 refine SC.of_M mixed Tryz.func150 (by kernel_rfl) rfl Tryz.results150 _ Tryz.ntmps150 (by simp) (by simp) ?_
 simp -implicitDefEqProofs only [go_sem]
 refine T.loopM mixed [0, 1, 5] (fun n vs es => ∃ i : Nat, vs = [.at (.ow 0 0 1 l.length), .at (.v (.int .i64 (k + 1 * i))), .at (.v (.int .i64 i))] /\ es = [.arr 0 1 (marks markInt 1 k i ++ (l.drop i).map intRow)] /\ n + i = l.length) l.length (by omega) ?_ ?_
 ·simp -implicitDefEqProofs only [go_sem, invOf]
  exact ⟨0, by simp, by simp [marks_zero], by omega⟩
 rintro n _ _ ⟨i, rfl, rfl, hn⟩ -
 simp -implicitDefEqProofs only [go_sem]
 refine ⟨fun h => ?_, fun h => ?_⟩
 ·obtain ⟨x, hx⟩ : ∃ x, l[i]? = some x := ⟨l[i], List.getElem?_eq_getElem (by omega)⟩
  have e0 := marks_mid (g := intRow) (f := markInt) (s := 1) (k := k) hx
  have e1 := marks_set (g := intRow) (f := markInt) (s := 1) (k := k) (r := markInt (k + 1 * i)) hx rfl
  have hR : i < (marks markInt 1 k i ++ (l.drop i).map intRow).length := by simp [marks_length]; omega
  have hb : (0 : Int) <= i /\ (i : Int) < l.length := by omega
  have hb2 : i < i + (l.length - i) := by omega
  generalize marks markInt 1 k i ++ (l.drop i).map intRow = R at e0 e1 hR ⊢
  simp -implicitDefEqProofs (disch := omega) only [go_sem, invOf, wrap64, List.set_set, getD_set hR, e0, hb, hb2, Int.add_assoc, Int.reduceAdd]
  refine ⟨n - 1, by omega, i + 1, ⟨by omega, by omega⟩, ?_, by omega⟩
  exact (congrArg (R.set i) (by simp [markInt, Int.add_assoc])).trans e1
 ·have : i = l.length := by omega
  subst this
  simp
theorem laws_heldIntS (N : Nat) (k : Int) (h1 : 0 <= k) (h2 : k <= 1125899906842624) (hl : N <= 1099511627776) : SC Tryz.prog 153 [.at (.im 1 (marks markInt 1 k N)), .at (.v (.int .i64 k))] [] (.at (.v (.int .i64 (k + 1 * N)))) [] := by
 unfold marks
 refine SC.of_V mixed Tryz.func153 (by kernel_rfl) rfl Tryz.results153 _ Tryz.ntmps153 (by simp) ?_
 simp -implicitDefEqProofs only [go_sem]
 refine T.loopW mixed [0, 1, 5] (fun mm vs es => ∃ (i : Nat), vs = [.at (.im 1 ((List.range N).map fun (j : Nat) => markInt (k + 1 * (j : Int)))), .at (.v (.int .i64 (k + 1 * i))), .at (.v (.int .i64 i))] /\ es = [] /\ mm + i = N) N ?_ ?_
 ·simp -implicitDefEqProofs only [go_sem]
  exact ⟨0, by simp⟩
 rintro n _ _ ⟨i, rfl, rfl, hn⟩
 simp -implicitDefEqProofs only [go_sem]
 refine ⟨fun h => ?_, fun h => ?_⟩
 ·simp only [List.length_range] at h
  have hb : (0 : Int) <= i /\ (i : Int) < ((List.range N).length : Int) := by simp only [List.length_range]; omega
  have hg : (List.range N)[i]? = some i := by rw [List.getElem?_range (by omega)]
  simp -implicitDefEqProofs (disch := omega) only [go_sem, hb, hg, Option.some.injEq, forall_eq', wrap64, Int.add_assoc, Int.reduceAdd]
  refine ⟨n - 1, by omega, i + 1, ?_⟩
  omega
 ·simp only [List.length_range] at h
  have : i = N := by omega
  subst this
  rfl
theorem laws_szBoolS (l : List Bool) (left : Int) (h1 : 0 <= left) (h2 : left <= 1048576) (hl : l.length <= maxLen) : SC Tryz.prog 117 [.at (.im 1 (l.map boolRow)), .at (.v (.int .i64 left))] [] (.at (.v (.int .i64 (szL l.length left)))) [] := by
 have hm : l.length <= 9223372036854775807 := Nat.le_trans hl (by decide)
 refine SC.of_V mixed Tryz.func117 (by kernel_rfl) rfl Tryz.results117 _ Tryz.ntmps117 (by simp) ?_
 simp -implicitDefEqProofs only [go_sem]
 rw [wrap64 (by omega) (by omega)]
 exact ⟨fun h => by rw [szL, if_pos h], fun h => by rw [szL, if_neg h]⟩
theorem laws_toBoolS (l : List Bool) (hl : l.length <= 1048576) : SC Tryz.prog 143 [.at (.im 1 (l.map boolRow))] [] (.at (.fr 1 (l.map boolRow))) [] := by
 refine SC.of_W mixed Tryz.func143 (by kernel_rfl) rfl Tryz.results143 _ Tryz.ntmps143 (by simp) ?_
 simp -implicitDefEqProofs only [go_sem]
 refine ⟨by omega, ?_⟩
 refine T.loopW mixed [0, 3, 4] (fun mm vs es => ∃ (i : Nat), vs = [.at (.im 1 (l.map boolRow)), .at (.ow 100 0 1 l.length), .at (.v (.int .i64 i))] /\ es = [.arr 0 1 ((l.take i).map boolRow ++ List.replicate (l.length - i) [.bool false])] /\ mm + i = l.length) l.length ?_ ?_
 ·simp -implicitDefEqProofs only [go_sem]
  exact ⟨0, by simp, by simp, by omega⟩
 rintro n _ _ ⟨i, rfl, rfl, hn⟩
 simp -implicitDefEqProofs only [go_sem]
 refine ⟨fun h => ⟨by omega, fun p hp => ⟨by omega, by first | omega | (simp; omega), ?_⟩⟩, fun h => ?_⟩
 ·skip
  rw [wrap64 (by omega) (by omega)]
  have e1 := fill_get (f := boolRow) (z := [.bool false]) (show i < l.length by omega)
  have e2 := set_fill (f := boolRow) (z := [.bool false]) hp
  simp only [boolRow] at e1 e2
  rw [e1]
  simp -implicitDefEqProofs only [go_sem]
  rw [e2]
  exact ⟨n - 1, by omega, i + 1, by simp, rfl, by omega⟩
 ·have : i = l.length := by omega
  subst this
  simp
theorem laws_eqBoolS (a b : List Bool) (ha : a.length <= 1099511627776) : SC Tryz.prog 148 [.at (.im 1 (a.map boolRow)), .at (.im 1 (b.map boolRow))] [] (.at (.v (.bool (decide (a = b))))) [] := by
 refine SC.of_V mixed Tryz.func148 (by kernel_rfl) rfl Tryz.results148 _ Tryz.ntmps148 (by simp) ?_
 simp -implicitDefEqProofs only [go_sem]
 refine ⟨fun h => ?_, fun h => ?_⟩
 ·simp; rintro rfl; exact h rfl
 have hl : a.length = b.length := by omega
 refine T.loopW mixed [0, 1, 5] (fun mm vs es => ∃ (i : Nat), vs = [.at (.im 1 (a.map boolRow)), .at (.im 1 (b.map boolRow)), .at (.v (.int .i64 i))] /\ es = [] /\ mm + i = a.length /\ a.take i = b.take i) a.length ?_ ?_
 ·simp -implicitDefEqProofs only [go_sem]; exact ⟨0, rfl, by omega, by simp⟩
 rintro n _ _ ⟨i, rfl, rfl, hn, ht⟩
 simp -implicitDefEqProofs only [go_sem]
 refine ⟨fun h => ?_, fun h => ?_⟩
 ·refine ⟨some [], by decide +kernel, ?_⟩
  simp -implicitDefEqProofs only [go_sem]
  refine ⟨by omega, fun p hp => ⟨by omega, fun q hq => ?_⟩⟩
  skip
  refine ⟨fun hpq => ?_, fun hpq => ?_⟩
  ·have := ne_step hp hq (by simpa using hpq)
   simp [this]
  ·rw [wrap64 (by omega) (by omega)]
   exact ⟨n - 1, by omega, i + 1, rfl, by omega, eq_step ht hp hq (by simpa using hpq)⟩
 ·have := eq_end hl ht h
  simp [this]
def markBool (k : Int) : List Value := [.bool (decide (k.tmod 3 = 0))]
attribute [go_sem] markBool
theorem laws_markBoolS (l : List Bool) (k : Int) (h1 : 0 <= k) (h2 : k <= 1125899906842624) (hl : l.length <= 1099511627776) : SC Tryz.prog 152 [.at (.ow 0 0 1 l.length), .at (.v (.int .i64 k))] [.arr 0 1 (l.map boolRow)] (.at (.v (.int .i64 (k + 1 * l.length)))) [.arr 0 1 (marks markBool 1 k l.length)] := by
 refine SC.of_M mixed Tryz.func152 (by kernel_rfl) rfl Tryz.results152 _ Tryz.ntmps152 (by simp) (by simp) ?_
 simp -implicitDefEqProofs only [go_sem]
 refine T.loopM mixed [0, 1, 5] (fun n vs es => ∃ i : Nat, vs = [.at (.ow 0 0 1 l.length), .at (.v (.int .i64 (k + 1 * i))), .at (.v (.int .i64 i))] /\ es = [.arr 0 1 (marks markBool 1 k i ++ (l.drop i).map boolRow)] /\ n + i = l.length) l.length (by omega) ?_ ?_
 ·simp -implicitDefEqProofs only [go_sem, invOf]
  exact ⟨0, by simp, by simp [marks_zero], by omega⟩
 rintro n _ _ ⟨i, rfl, rfl, hn⟩ -
 simp -implicitDefEqProofs only [go_sem]
 refine ⟨fun h => ?_, fun h => ?_⟩
 ·obtain ⟨x, hx⟩ : ∃ x, l[i]? = some x := ⟨l[i], List.getElem?_eq_getElem (by omega)⟩
  have e0 := marks_mid (g := boolRow) (f := markBool) (s := 1) (k := k) hx
  have e1 := marks_set (g := boolRow) (f := markBool) (s := 1) (k := k) (r := markBool (k + 1 * i)) hx rfl
  have hR : i < (marks markBool 1 k i ++ (l.drop i).map boolRow).length := by simp [marks_length]; omega
  have hb : (0 : Int) <= i /\ (i : Int) < l.length := by omega
  have hb2 : i < i + (l.length - i) := by omega
  generalize marks markBool 1 k i ++ (l.drop i).map boolRow = R at e0 e1 hR ⊢
  simp -implicitDefEqProofs (disch := omega) only [go_sem, invOf, wrap64, List.set_set, getD_set hR, e0, hb, hb2, Int.add_assoc, Int.reduceAdd]
  refine ⟨n - 1, by omega, i + 1, ⟨by omega, by omega⟩, ?_, by omega⟩
  exact (congrArg (R.set i) (by simp [markBool, Int.add_assoc])).trans e1
 ·have : i = l.length := by omega
  subst this
  simp
theorem laws_heldBoolS (N : Nat) (k : Int) (h1 : 0 <= k) (h2 : k <= 1125899906842624) (hl : N <= 1099511627776) : SC Tryz.prog 155 [.at (.im 1 (marks markBool 1 k N)), .at (.v (.int .i64 k))] [] (.at (.v (.int .i64 (k + 1 * N)))) [] := by
 unfold marks
 refine SC.of_V mixed Tryz.func155 (by kernel_rfl) rfl Tryz.results155 _ Tryz.ntmps155 (by simp) ?_
 simp -implicitDefEqProofs only [go_sem]
 refine T.loopW mixed [0, 1, 5] (fun mm vs es => ∃ (i : Nat), vs = [.at (.im 1 ((List.range N).map fun (j : Nat) => markBool (k + 1 * (j : Int)))), .at (.v (.int .i64 (k + 1 * i))), .at (.v (.int .i64 i))] /\ es = [] /\ mm + i = N) N ?_ ?_
 ·simp -implicitDefEqProofs only [go_sem]
  exact ⟨0, by simp⟩
 rintro n _ _ ⟨i, rfl, rfl, hn⟩
 simp -implicitDefEqProofs only [go_sem]
 refine ⟨fun h => ?_, fun h => ?_⟩
 ·simp only [List.length_range] at h
  have hb : (0 : Int) <= i /\ (i : Int) < ((List.range N).length : Int) := by simp only [List.length_range]; omega
  have hg : (List.range N)[i]? = some i := by rw [List.getElem?_range (by omega)]
  simp -implicitDefEqProofs (disch := omega) only [go_sem, hb, hg, Option.some.injEq, forall_eq', wrap64, Int.add_assoc, Int.reduceAdd]
  refine ⟨n - 1, by omega, i + 1, ?_⟩
  omega
 ·simp only [List.length_range] at h
  have : i = N := by omega
  subst this
  rfl
theorem strBeq {a b : ByteArray} : (a.toList == b.toList) = decide (a = b) := by
 rcases a with ⟨⟨x⟩⟩
 rcases b with ⟨⟨y⟩⟩
 rw [ByteArray.toList_mk, ByteArray.toList_mk]
 by_cases h : x = y
 ·subst h; simp
 ·rw [decide_eq_false (fun e => h (by injection e with e; injection e)), beq_eq_false_iff_ne]; exact h
theorem laws_eqStringS (a b : List ByteArray) (ha : a.length <= 1099511627776) : SC Tryz.prog 15 [.at (.im 1 (a.map strRow)), .at (.im 1 (b.map strRow))] [] (.at (.v (.bool (decide (a = b))))) [] := by
 refine SC.of_V mixed Tryz.func15 (by kernel_rfl) rfl Tryz.results15 _ Tryz.ntmps15 (by simp) ?_
 simp -implicitDefEqProofs only [go_sem]
 refine ⟨fun h => ?_, fun h => ?_⟩
 ·simp; rintro rfl; exact h rfl
 have hl : a.length = b.length := by omega
 refine T.loopW mixed [0, 1, 5] (fun mm vs es => ∃ (i : Nat), vs = [.at (.im 1 (a.map strRow)), .at (.im 1 (b.map strRow)), .at (.v (.int .i64 i))] /\ es = [] /\ mm + i = a.length /\ a.take i = b.take i) a.length ?_ ?_
 ·simp -implicitDefEqProofs only [go_sem]; exact ⟨0, rfl, by omega, by simp⟩
 rintro n _ _ ⟨i, rfl, rfl, hn, ht⟩
 simp -implicitDefEqProofs only [go_sem]
 refine ⟨fun h => ?_, fun h => ?_⟩
 ·refine ⟨some [], by decide +kernel, ?_⟩
  simp -implicitDefEqProofs only [go_sem]
  refine ⟨by omega, fun p hp => ⟨by omega, fun q hq => ?_⟩⟩
  simp only [strBeq]
  refine ⟨fun hpq => ?_, fun hpq => ?_⟩
  ·have := ne_step hp hq (by simpa using hpq)
   simp [this]
  ·rw [wrap64 (by omega) (by omega)]
   exact ⟨n - 1, by omega, i + 1, rfl, by omega, eq_step ht hp hq (by simpa using hpq)⟩
 ·have := eq_end hl ht h
  simp [this]
theorem laws_szPageS (l : List DPage) (left : Int) (h1 : 0 <= left) (h2 : left <= 1048576) (hl : l.length <= maxLen) : SC Tryz.prog 43 [.at (.im 4 (l.map DPage.row)), .at (.v (.int .i64 left))] [] (.at (.v (.int .i64 (szL l.length left)))) [] := by
 have hm : l.length <= 9223372036854775807 := Nat.le_trans hl (by decide)
 refine SC.of_V mixed Tryz.func43 (by kernel_rfl) rfl Tryz.results43 _ Tryz.ntmps43 (by simp) ?_
 simp -implicitDefEqProofs only [go_sem]
 rw [wrap64 (by omega) (by omega)]
 exact ⟨fun h => by rw [szL, if_pos h], fun h => by rw [szL, if_neg h]⟩
theorem laws_toPage (p : DPage) : SC Tryz.prog 144 [.ag p.ats] [] (.ag p.ats) [] := by
 refine SC.of_W mixed Tryz.func144 (by kernel_rfl) rfl Tryz.results144 _ Tryz.ntmps144 (by simp) ?_
 simp -implicitDefEqProofs only [go_sem]
theorem laws_toPageS (l : List DPage) (hl : l.length <= 1048576) : SC Tryz.prog 57 [.at (.im 4 (l.map DPage.row))] [] (.at (.fr 4 (l.map DPage.row))) [] := by
 refine SC.of_W mixed Tryz.func57 (by kernel_rfl) rfl Tryz.results57 _ Tryz.ntmps57 (by simp) ?_
 simp -implicitDefEqProofs only [go_sem]
 refine ⟨by omega, ?_⟩
 refine T.loopW mixed [0, 3, 4] (fun mm vs es => ∃ (i : Nat), vs = [.at (.im 4 (l.map DPage.row)), .at (.ow 100 0 4 l.length), .at (.v (.int .i64 i))] /\ es = [.arr 0 4 ((l.take i).map DPage.row ++ List.replicate (l.length - i) [.int .i64 0, .int .i64 0, .int .i64 0, .int .i64 0])] /\ mm + i = l.length) l.length ?_ ?_
 ·simp -implicitDefEqProofs only [go_sem]
  exact ⟨0, by simp, by simp, by omega⟩
 rintro n _ _ ⟨i, rfl, rfl, hn⟩
 simp -implicitDefEqProofs only [go_sem]
 refine ⟨fun h => ⟨by omega, fun p hp => callX [] (laws_toPage p) (by simp -implicitDefEqProofs only [go_sem]) ?_⟩, fun h => ?_⟩
 ·simp -implicitDefEqProofs only [go_sem]
  refine ⟨by omega, by first | omega | (simp; omega), ?_⟩
  rw [wrap64 (by omega) (by omega)]
  have e1 := fill_get (f := DPage.row) (z := [.int .i64 0, .int .i64 0, .int .i64 0, .int .i64 0]) (show i < l.length by omega)
  have e2 := set_fill (f := DPage.row) (z := [.int .i64 0, .int .i64 0, .int .i64 0, .int .i64 0]) hp
  simp only [DPage.row] at e1 e2
  rw [e1]
  simp -implicitDefEqProofs only [go_sem]
  rw [e2]
  exact ⟨n - 1, by omega, i + 1, by simp, rfl, by omega⟩
 ·have : i = l.length := by omega
  subst this
  simp
theorem laws_eqPage (p q : DPage) : SC Tryz.prog 149 [.ag p.ats, .ag q.ats] [] (.at (.v (.bool (decide (p = q))))) [] := by
 refine SC.of_V mixed Tryz.func149 (by kernel_rfl) rfl Tryz.results149 _ Tryz.ntmps149 (by simp) ?_
 simp -implicitDefEqProofs only [go_sem]
 obtain ⟨a0, a1, a2, a3⟩ := p
 obtain ⟨b0, b1, b2, b3⟩ := q
 simp only [DPage.mk.injEq]
 grind
theorem laws_eqPageS (a b : List DPage) (ha : a.length <= 1099511627776) : SC Tryz.prog 62 [.at (.im 4 (a.map DPage.row)), .at (.im 4 (b.map DPage.row))] [] (.at (.v (.bool (decide (a = b))))) [] := by
 refine SC.of_V mixed Tryz.func62 (by kernel_rfl) rfl Tryz.results62 _ Tryz.ntmps62 (by simp) ?_
 simp -implicitDefEqProofs only [go_sem]
 refine ⟨fun h => ?_, fun h => ?_⟩
 ·simp; rintro rfl; exact h rfl
 have hl : a.length = b.length := by omega
 refine T.loopW mixed [0, 1, 5] (fun mm vs es => ∃ (i : Nat), vs = [.at (.im 4 (a.map DPage.row)), .at (.im 4 (b.map DPage.row)), .at (.v (.int .i64 i))] /\ es = [] /\ mm + i = a.length /\ a.take i = b.take i) a.length ?_ ?_
 ·simp -implicitDefEqProofs only [go_sem]; exact ⟨0, rfl, by omega, by simp⟩
 rintro n _ _ ⟨i, rfl, rfl, hn, ht⟩
 simp -implicitDefEqProofs only [go_sem]
 refine ⟨fun h => ?_, fun h => ?_⟩
 ·refine ⟨some [], by decide +kernel, ?_⟩
  simp -implicitDefEqProofs only [go_sem]
  refine ⟨by omega, fun p hp => ⟨by omega, fun q hq => callXQ [] (laws_eqPage p q) (by simp -implicitDefEqProofs only [go_sem]) ?_⟩⟩
  simp -implicitDefEqProofs only [go_sem]
  skip
  refine ⟨fun hpq => ?_, fun hpq => ?_⟩
  ·have := ne_step hp hq (by simpa using hpq)
   simp [this]
  ·rw [wrap64 (by omega) (by omega)]
   exact ⟨n - 1, by omega, i + 1, rfl, by omega, eq_step ht hp hq (by simpa using hpq)⟩
 ·have := eq_end hl ht h
  simp [this]
def markPage (k : Int) : List Value := [.int .i64 k, .int .i64 (k + 1), .int .i64 (k + 2), .int .i64 (k + 3)]
attribute [go_sem] markPage
theorem laws_markPageS (l : List DPage) (k : Int) (h1 : 0 <= k) (h2 : k <= 1125899906842624) (hl : l.length <= 1099511627776) : SC Tryz.prog 66 [.at (.ow 0 0 4 l.length), .at (.v (.int .i64 k))] [.arr 0 4 (l.map DPage.row)] (.at (.v (.int .i64 (k + 4 * l.length)))) [.arr 0 4 (marks markPage 4 k l.length)] := by
 refine SC.of_M mixed Tryz.func66 (by kernel_rfl) rfl Tryz.results66 _ Tryz.ntmps66 (by simp) (by simp) ?_
 simp -implicitDefEqProofs only [go_sem]
 refine T.loopM mixed [0, 1, 5] (fun n vs es => ∃ i : Nat, vs = [.at (.ow 0 0 4 l.length), .at (.v (.int .i64 (k + 4 * i))), .at (.v (.int .i64 i))] /\ es = [.arr 0 4 (marks markPage 4 k i ++ (l.drop i).map DPage.row)] /\ n + i = l.length) l.length (by omega) ?_ ?_
 ·simp -implicitDefEqProofs only [go_sem, invOf]
  exact ⟨0, by simp, by simp [marks_zero], by omega⟩
 rintro n _ _ ⟨i, rfl, rfl, hn⟩ -
 simp -implicitDefEqProofs only [go_sem]
 refine ⟨fun h => ?_, fun h => ?_⟩
 ·obtain ⟨x, hx⟩ : ∃ x, l[i]? = some x := ⟨l[i], List.getElem?_eq_getElem (by omega)⟩
  have e0 := marks_mid (g := DPage.row) (f := markPage) (s := 4) (k := k) hx
  have e1 := marks_set (g := DPage.row) (f := markPage) (s := 4) (k := k) (r := markPage (k + 4 * i)) hx rfl
  have hR : i < (marks markPage 4 k i ++ (l.drop i).map DPage.row).length := by simp [marks_length]; omega
  have hb : (0 : Int) <= i /\ (i : Int) < l.length := by omega
  have hb2 : i < i + (l.length - i) := by omega
  generalize marks markPage 4 k i ++ (l.drop i).map DPage.row = R at e0 e1 hR ⊢
  simp -implicitDefEqProofs (disch := omega) only [go_sem, invOf, wrap64, List.set_set, getD_set hR, e0, hb, hb2, Int.add_assoc, Int.reduceAdd]
  refine ⟨n - 1, by omega, i + 1, ⟨by omega, by omega⟩, ?_, by omega⟩
  exact (congrArg (R.set i) (by simp [markPage, Int.add_assoc])).trans e1
 ·have : i = l.length := by omega
  subst this
  simp
theorem laws_heldPageS (N : Nat) (k : Int) (h1 : 0 <= k) (h2 : k <= 1125899906842624) (hl : N <= 1099511627776) : SC Tryz.prog 70 [.at (.im 4 (marks markPage 4 k N)), .at (.v (.int .i64 k))] [] (.at (.v (.int .i64 (k + 4 * N)))) [] := by
 unfold marks
 refine SC.of_V mixed Tryz.func70 (by kernel_rfl) rfl Tryz.results70 _ Tryz.ntmps70 (by simp) ?_
 simp -implicitDefEqProofs only [go_sem]
 refine T.loopW mixed [0, 1, 5] (fun mm vs es => ∃ (i : Nat), vs = [.at (.im 4 ((List.range N).map fun (j : Nat) => markPage (k + 4 * (j : Int)))), .at (.v (.int .i64 (k + 4 * i))), .at (.v (.int .i64 i))] /\ es = [] /\ mm + i = N) N ?_ ?_
 ·simp -implicitDefEqProofs only [go_sem]
  exact ⟨0, by simp⟩
 rintro n _ _ ⟨i, rfl, rfl, hn⟩
 simp -implicitDefEqProofs only [go_sem]
 refine ⟨fun h => ?_, fun h => ?_⟩
 ·simp only [List.length_range] at h
  have hb : (0 : Int) <= i /\ (i : Int) < ((List.range N).length : Int) := by simp only [List.length_range]; omega
  have hg : (List.range N)[i]? = some i := by rw [List.getElem?_range (by omega)]
  simp -implicitDefEqProofs (disch := omega) only [go_sem, hb, hg, Option.some.injEq, forall_eq', wrap64, Int.add_assoc, Int.reduceAdd]
  refine ⟨n - 1, by omega, i + 1, ?_⟩
  omega
 ·simp only [List.length_range] at h
  have : i = N := by omega
  subst this
  rfl
theorem laws_szMemberS (l : List DMember) (left : Int) (h1 : 0 <= left) (h2 : left <= 1048576) (hl : l.length <= maxLen) : SC Tryz.prog 116 [.at (.im 4 (l.map DMember.row)), .at (.v (.int .i64 left))] [] (.at (.v (.int .i64 (szL l.length left)))) [] := by
 have hm : l.length <= 9223372036854775807 := Nat.le_trans hl (by decide)
 refine SC.of_V mixed Tryz.func116 (by kernel_rfl) rfl Tryz.results116 _ Tryz.ntmps116 (by simp) ?_
 simp -implicitDefEqProofs only [go_sem]
 rw [wrap64 (by omega) (by omega)]
 exact ⟨fun h => by rw [szL, if_pos h], fun h => by rw [szL, if_neg h]⟩
theorem laws_toMember (p : DMember) : SC Tryz.prog 243 [.ag p.ats] [] (.ag p.ats) [] := by
 refine SC.of_W mixed Tryz.func243 (by kernel_rfl) rfl Tryz.results243 _ Tryz.ntmps243 (by simp) ?_
 simp -implicitDefEqProofs only [go_sem]
theorem laws_toMemberS (l : List DMember) (hl : l.length <= 1048576) : SC Tryz.prog 142 [.at (.im 4 (l.map DMember.row))] [] (.at (.fr 4 (l.map DMember.row))) [] := by
 refine SC.of_W mixed Tryz.func142 (by kernel_rfl) rfl Tryz.results142 _ Tryz.ntmps142 (by simp) ?_
 simp -implicitDefEqProofs only [go_sem]
 refine ⟨by omega, ?_⟩
 refine T.loopW mixed [0, 3, 4] (fun mm vs es => ∃ (i : Nat), vs = [.at (.im 4 (l.map DMember.row)), .at (.ow 100 0 4 l.length), .at (.v (.int .i64 i))] /\ es = [.arr 0 4 ((l.take i).map DMember.row ++ List.replicate (l.length - i) [.int .i64 0, .int .i64 0, .int .i64 0, .bool false])] /\ mm + i = l.length) l.length ?_ ?_
 ·simp -implicitDefEqProofs only [go_sem]
  exact ⟨0, by simp, by simp, by omega⟩
 rintro n _ _ ⟨i, rfl, rfl, hn⟩
 simp -implicitDefEqProofs only [go_sem]
 refine ⟨fun h => ⟨by omega, fun p hp => callX [] (laws_toMember p) (by simp -implicitDefEqProofs only [go_sem]) ?_⟩, fun h => ?_⟩
 ·simp -implicitDefEqProofs only [go_sem]
  refine ⟨by omega, by first | omega | (simp; omega), ?_⟩
  rw [wrap64 (by omega) (by omega)]
  have e1 := fill_get (f := DMember.row) (z := [.int .i64 0, .int .i64 0, .int .i64 0, .bool false]) (show i < l.length by omega)
  have e2 := set_fill (f := DMember.row) (z := [.int .i64 0, .int .i64 0, .int .i64 0, .bool false]) hp
  simp only [DMember.row] at e1 e2
  rw [e1]
  simp -implicitDefEqProofs only [go_sem]
  rw [e2]
  exact ⟨n - 1, by omega, i + 1, by simp, rfl, by omega⟩
 ·have : i = l.length := by omega
  subst this
  simp
theorem laws_eqMember (p q : DMember) : SC Tryz.prog 244 [.ag p.ats, .ag q.ats] [] (.at (.v (.bool (decide (p = q))))) [] := by
 refine SC.of_V mixed Tryz.func244 (by kernel_rfl) rfl Tryz.results244 _ Tryz.ntmps244 (by simp) ?_
 simp -implicitDefEqProofs only [go_sem]
 obtain ⟨a0, a1, a2, a3⟩ := p
 obtain ⟨b0, b1, b2, b3⟩ := q
 simp only [DMember.mk.injEq]
 grind
theorem laws_eqMemberS (a b : List DMember) (ha : a.length <= 1099511627776) : SC Tryz.prog 147 [.at (.im 4 (a.map DMember.row)), .at (.im 4 (b.map DMember.row))] [] (.at (.v (.bool (decide (a = b))))) [] := by
 refine SC.of_V mixed Tryz.func147 (by kernel_rfl) rfl Tryz.results147 _ Tryz.ntmps147 (by simp) ?_
 simp -implicitDefEqProofs only [go_sem]
 refine ⟨fun h => ?_, fun h => ?_⟩
 ·simp; rintro rfl; exact h rfl
 have hl : a.length = b.length := by omega
 refine T.loopW mixed [0, 1, 5] (fun mm vs es => ∃ (i : Nat), vs = [.at (.im 4 (a.map DMember.row)), .at (.im 4 (b.map DMember.row)), .at (.v (.int .i64 i))] /\ es = [] /\ mm + i = a.length /\ a.take i = b.take i) a.length ?_ ?_
 ·simp -implicitDefEqProofs only [go_sem]; exact ⟨0, rfl, by omega, by simp⟩
 rintro n _ _ ⟨i, rfl, rfl, hn, ht⟩
 simp -implicitDefEqProofs only [go_sem]
 refine ⟨fun h => ?_, fun h => ?_⟩
 ·refine ⟨some [], by decide +kernel, ?_⟩
  simp -implicitDefEqProofs only [go_sem]
  refine ⟨by omega, fun p hp => ⟨by omega, fun q hq => callXQ [] (laws_eqMember p q) (by simp -implicitDefEqProofs only [go_sem]) ?_⟩⟩
  simp -implicitDefEqProofs only [go_sem]
  skip
  refine ⟨fun hpq => ?_, fun hpq => ?_⟩
  ·have := ne_step hp hq (by simpa using hpq)
   simp [this]
  ·rw [wrap64 (by omega) (by omega)]
   exact ⟨n - 1, by omega, i + 1, rfl, by omega, eq_step ht hp hq (by simpa using hpq)⟩
 ·have := eq_end hl ht h
  simp [this]
def markMember (k : Int) : List Value := [.int .i64 k, .int .i64 (k + 1), .int .i64 (k + 2), .bool (decide (Int.tmod (k + 3) 3 = 0))]
attribute [go_sem] markMember
theorem laws_markMemberS (l : List DMember) (k : Int) (h1 : 0 <= k) (h2 : k <= 1125899906842624) (hl : l.length <= 1099511627776) : SC Tryz.prog 151 [.at (.ow 0 0 4 l.length), .at (.v (.int .i64 k))] [.arr 0 4 (l.map DMember.row)] (.at (.v (.int .i64 (k + 4 * l.length)))) [.arr 0 4 (marks markMember 4 k l.length)] := by
 refine SC.of_M mixed Tryz.func151 (by kernel_rfl) rfl Tryz.results151 _ Tryz.ntmps151 (by simp) (by simp) ?_
 simp -implicitDefEqProofs only [go_sem]
 refine T.loopM mixed [0, 1, 5] (fun n vs es => ∃ i : Nat, vs = [.at (.ow 0 0 4 l.length), .at (.v (.int .i64 (k + 4 * i))), .at (.v (.int .i64 i))] /\ es = [.arr 0 4 (marks markMember 4 k i ++ (l.drop i).map DMember.row)] /\ n + i = l.length) l.length (by omega) ?_ ?_
 ·simp -implicitDefEqProofs only [go_sem, invOf]
  exact ⟨0, by simp, by simp [marks_zero], by omega⟩
 rintro n _ _ ⟨i, rfl, rfl, hn⟩ -
 simp -implicitDefEqProofs only [go_sem]
 refine ⟨fun h => ?_, fun h => ?_⟩
 ·obtain ⟨x, hx⟩ : ∃ x, l[i]? = some x := ⟨l[i], List.getElem?_eq_getElem (by omega)⟩
  have e0 := marks_mid (g := DMember.row) (f := markMember) (s := 4) (k := k) hx
  have e1 := marks_set (g := DMember.row) (f := markMember) (s := 4) (k := k) (r := markMember (k + 4 * i)) hx rfl
  have hR : i < (marks markMember 4 k i ++ (l.drop i).map DMember.row).length := by simp [marks_length]; omega
  have hb : (0 : Int) <= i /\ (i : Int) < l.length := by omega
  have hb2 : i < i + (l.length - i) := by omega
  generalize marks markMember 4 k i ++ (l.drop i).map DMember.row = R at e0 e1 hR ⊢
  simp -implicitDefEqProofs (disch := omega) only [go_sem, invOf, wrap64, List.set_set, getD_set hR, e0, hb, hb2, Int.add_assoc, Int.reduceAdd]
  refine ⟨n - 1, by omega, i + 1, ⟨by omega, by omega⟩, ?_, by omega⟩
  exact (congrArg (R.set i) (by simp [markMember, Int.add_assoc])).trans e1
 ·have : i = l.length := by omega
  subst this
  simp
theorem laws_heldMemberS (N : Nat) (k : Int) (h1 : 0 <= k) (h2 : k <= 1125899906842624) (hl : N <= 1099511627776) : SC Tryz.prog 154 [.at (.im 4 (marks markMember 4 k N)), .at (.v (.int .i64 k))] [] (.at (.v (.int .i64 (k + 4 * N)))) [] := by
 unfold marks
 refine SC.of_V mixed Tryz.func154 (by kernel_rfl) rfl Tryz.results154 _ Tryz.ntmps154 (by simp) ?_
 simp -implicitDefEqProofs only [go_sem]
 refine T.loopW mixed [0, 1, 5] (fun mm vs es => ∃ (i : Nat), vs = [.at (.im 4 ((List.range N).map fun (j : Nat) => markMember (k + 4 * (j : Int)))), .at (.v (.int .i64 (k + 4 * i))), .at (.v (.int .i64 i))] /\ es = [] /\ mm + i = N) N ?_ ?_
 ·simp -implicitDefEqProofs only [go_sem]
  exact ⟨0, by simp⟩
 rintro n _ _ ⟨i, rfl, rfl, hn⟩
 simp -implicitDefEqProofs only [go_sem]
 refine ⟨fun h => ?_, fun h => ?_⟩
 ·simp only [List.length_range] at h
  have hb : (0 : Int) <= i /\ (i : Int) < ((List.range N).length : Int) := by simp only [List.length_range]; omega
  have hg : (List.range N)[i]? = some i := by rw [List.getElem?_range (by omega)]
  simp -implicitDefEqProofs (disch := omega) only [go_sem, hb, hg, Option.some.injEq, forall_eq', wrap64, Int.add_assoc, Int.reduceAdd]
  refine ⟨n - 1, by omega, i + 1, ?_⟩
  omega
 ·simp only [List.length_range] at h
  have : i = N := by omega
  subst this
  rfl
theorem laws_szDepotS (l : List DDepot) (left : Int) (h1 : 0 <= left) (h2 : left <= 1048576) (hl : l.length <= maxLen) : SC Tryz.prog 41 [.at (.im 2 (l.map DDepot.row)), .at (.v (.int .i64 left))] [] (.at (.v (.int .i64 (szL l.length left)))) [] := by
 have hm : l.length <= 9223372036854775807 := Nat.le_trans hl (by decide)
 refine SC.of_V mixed Tryz.func41 (by kernel_rfl) rfl Tryz.results41 _ Tryz.ntmps41 (by simp) ?_
 simp -implicitDefEqProofs only [go_sem]
 rw [wrap64 (by omega) (by omega)]
 exact ⟨fun h => by rw [szL, if_pos h], fun h => by rw [szL, if_neg h]⟩
theorem laws_toDepot (p : DDepot) : SC Tryz.prog 141 [.ag p.ats] [] (.ag p.ats) [] := by
 refine SC.of_W mixed Tryz.func141 (by kernel_rfl) rfl Tryz.results141 _ Tryz.ntmps141 (by simp) ?_
 simp -implicitDefEqProofs only [go_sem]
theorem laws_toDepotS (l : List DDepot) (hl : l.length <= 1048576) : SC Tryz.prog 55 [.at (.im 2 (l.map DDepot.row))] [] (.at (.fr 2 (l.map DDepot.row))) [] := by
 refine SC.of_W mixed Tryz.func55 (by kernel_rfl) rfl Tryz.results55 _ Tryz.ntmps55 (by simp) ?_
 simp -implicitDefEqProofs only [go_sem]
 refine ⟨by omega, ?_⟩
 refine T.loopW mixed [0, 3, 4] (fun mm vs es => ∃ (i : Nat), vs = [.at (.im 2 (l.map DDepot.row)), .at (.ow 100 0 2 l.length), .at (.v (.int .i64 i))] /\ es = [.arr 0 2 ((l.take i).map DDepot.row ++ List.replicate (l.length - i) [.int .i64 0, .int .i64 0])] /\ mm + i = l.length) l.length ?_ ?_
 ·simp -implicitDefEqProofs only [go_sem]
  exact ⟨0, by simp, by simp, by omega⟩
 rintro n _ _ ⟨i, rfl, rfl, hn⟩
 simp -implicitDefEqProofs only [go_sem]
 refine ⟨fun h => ⟨by omega, fun p hp => callX [] (laws_toDepot p) (by simp -implicitDefEqProofs only [go_sem]) ?_⟩, fun h => ?_⟩
 ·simp -implicitDefEqProofs only [go_sem]
  refine ⟨by omega, by first | omega | (simp; omega), ?_⟩
  rw [wrap64 (by omega) (by omega)]
  have e1 := fill_get (f := DDepot.row) (z := [.int .i64 0, .int .i64 0]) (show i < l.length by omega)
  have e2 := set_fill (f := DDepot.row) (z := [.int .i64 0, .int .i64 0]) hp
  simp only [DDepot.row] at e1 e2
  rw [e1]
  simp -implicitDefEqProofs only [go_sem]
  rw [e2]
  exact ⟨n - 1, by omega, i + 1, by simp, rfl, by omega⟩
 ·have : i = l.length := by omega
  subst this
  simp
theorem laws_eqDepot (p q : DDepot) : SC Tryz.prog 146 [.ag p.ats, .ag q.ats] [] (.at (.v (.bool (decide (p = q))))) [] := by
 refine SC.of_V mixed Tryz.func146 (by kernel_rfl) rfl Tryz.results146 _ Tryz.ntmps146 (by simp) ?_
 simp -implicitDefEqProofs only [go_sem]
 obtain ⟨a0, a1⟩ := p
 obtain ⟨b0, b1⟩ := q
 simp only [DDepot.mk.injEq]
 grind
theorem laws_eqDepotS (a b : List DDepot) (ha : a.length <= 1099511627776) : SC Tryz.prog 60 [.at (.im 2 (a.map DDepot.row)), .at (.im 2 (b.map DDepot.row))] [] (.at (.v (.bool (decide (a = b))))) [] := by
 refine SC.of_V mixed Tryz.func60 (by kernel_rfl) rfl Tryz.results60 _ Tryz.ntmps60 (by simp) ?_
 simp -implicitDefEqProofs only [go_sem]
 refine ⟨fun h => ?_, fun h => ?_⟩
 ·simp; rintro rfl; exact h rfl
 have hl : a.length = b.length := by omega
 refine T.loopW mixed [0, 1, 5] (fun mm vs es => ∃ (i : Nat), vs = [.at (.im 2 (a.map DDepot.row)), .at (.im 2 (b.map DDepot.row)), .at (.v (.int .i64 i))] /\ es = [] /\ mm + i = a.length /\ a.take i = b.take i) a.length ?_ ?_
 ·simp -implicitDefEqProofs only [go_sem]; exact ⟨0, rfl, by omega, by simp⟩
 rintro n _ _ ⟨i, rfl, rfl, hn, ht⟩
 simp -implicitDefEqProofs only [go_sem]
 refine ⟨fun h => ?_, fun h => ?_⟩
 ·refine ⟨some [], by decide +kernel, ?_⟩
  simp -implicitDefEqProofs only [go_sem]
  refine ⟨by omega, fun p hp => ⟨by omega, fun q hq => callXQ [] (laws_eqDepot p q) (by simp -implicitDefEqProofs only [go_sem]) ?_⟩⟩
  simp -implicitDefEqProofs only [go_sem]
  skip
  refine ⟨fun hpq => ?_, fun hpq => ?_⟩
  ·have := ne_step hp hq (by simpa using hpq)
   simp [this]
  ·rw [wrap64 (by omega) (by omega)]
   exact ⟨n - 1, by omega, i + 1, rfl, by omega, eq_step ht hp hq (by simpa using hpq)⟩
 ·have := eq_end hl ht h
  simp [this]
def markDepot (k : Int) : List Value := [.int .i64 k, .int .i64 (k + 1)]
attribute [go_sem] markDepot
theorem laws_markDepotS (l : List DDepot) (k : Int) (h1 : 0 <= k) (h2 : k <= 1125899906842624) (hl : l.length <= 1099511627776) : SC Tryz.prog 64 [.at (.ow 0 0 2 l.length), .at (.v (.int .i64 k))] [.arr 0 2 (l.map DDepot.row)] (.at (.v (.int .i64 (k + 2 * l.length)))) [.arr 0 2 (marks markDepot 2 k l.length)] := by
 refine SC.of_M mixed Tryz.func64 (by kernel_rfl) rfl Tryz.results64 _ Tryz.ntmps64 (by simp) (by simp) ?_
 simp -implicitDefEqProofs only [go_sem]
 refine T.loopM mixed [0, 1, 5] (fun n vs es => ∃ i : Nat, vs = [.at (.ow 0 0 2 l.length), .at (.v (.int .i64 (k + 2 * i))), .at (.v (.int .i64 i))] /\ es = [.arr 0 2 (marks markDepot 2 k i ++ (l.drop i).map DDepot.row)] /\ n + i = l.length) l.length (by omega) ?_ ?_
 ·simp -implicitDefEqProofs only [go_sem, invOf]
  exact ⟨0, by simp, by simp [marks_zero], by omega⟩
 rintro n _ _ ⟨i, rfl, rfl, hn⟩ -
 simp -implicitDefEqProofs only [go_sem]
 refine ⟨fun h => ?_, fun h => ?_⟩
 ·obtain ⟨x, hx⟩ : ∃ x, l[i]? = some x := ⟨l[i], List.getElem?_eq_getElem (by omega)⟩
  have e0 := marks_mid (g := DDepot.row) (f := markDepot) (s := 2) (k := k) hx
  have e1 := marks_set (g := DDepot.row) (f := markDepot) (s := 2) (k := k) (r := markDepot (k + 2 * i)) hx rfl
  have hR : i < (marks markDepot 2 k i ++ (l.drop i).map DDepot.row).length := by simp [marks_length]; omega
  have hb : (0 : Int) <= i /\ (i : Int) < l.length := by omega
  have hb2 : i < i + (l.length - i) := by omega
  generalize marks markDepot 2 k i ++ (l.drop i).map DDepot.row = R at e0 e1 hR ⊢
  simp -implicitDefEqProofs (disch := omega) only [go_sem, invOf, wrap64, List.set_set, getD_set hR, e0, hb, hb2, Int.add_assoc, Int.reduceAdd]
  refine ⟨n - 1, by omega, i + 1, ⟨by omega, by omega⟩, ?_, by omega⟩
  exact (congrArg (R.set i) (by simp [markDepot, Int.add_assoc])).trans e1
 ·have : i = l.length := by omega
  subst this
  simp
theorem laws_heldDepotS (N : Nat) (k : Int) (h1 : 0 <= k) (h2 : k <= 1125899906842624) (hl : N <= 1099511627776) : SC Tryz.prog 68 [.at (.im 2 (marks markDepot 2 k N)), .at (.v (.int .i64 k))] [] (.at (.v (.int .i64 (k + 2 * N)))) [] := by
 unfold marks
 refine SC.of_V mixed Tryz.func68 (by kernel_rfl) rfl Tryz.results68 _ Tryz.ntmps68 (by simp) ?_
 simp -implicitDefEqProofs only [go_sem]
 refine T.loopW mixed [0, 1, 5] (fun mm vs es => ∃ (i : Nat), vs = [.at (.im 2 ((List.range N).map fun (j : Nat) => markDepot (k + 2 * (j : Int)))), .at (.v (.int .i64 (k + 2 * i))), .at (.v (.int .i64 i))] /\ es = [] /\ mm + i = N) N ?_ ?_
 ·simp -implicitDefEqProofs only [go_sem]
  exact ⟨0, by simp⟩
 rintro n _ _ ⟨i, rfl, rfl, hn⟩
 simp -implicitDefEqProofs only [go_sem]
 refine ⟨fun h => ?_, fun h => ?_⟩
 ·simp only [List.length_range] at h
  have hb : (0 : Int) <= i /\ (i : Int) < ((List.range N).length : Int) := by simp only [List.length_range]; omega
  have hg : (List.range N)[i]? = some i := by rw [List.getElem?_range (by omega)]
  simp -implicitDefEqProofs (disch := omega) only [go_sem, hb, hg, Option.some.injEq, forall_eq', wrap64, Int.add_assoc, Int.reduceAdd]
  refine ⟨n - 1, by omega, i + 1, ?_⟩
  omega
 ·simp only [List.length_range] at h
  have : i = N := by omega
  subst this
  rfl
theorem szL_lt {n : Nat} {left : Int} (h : szL n left < 0) : szL n left = -1 := by unfold szL at *; split <;> simp_all
theorem szL_in {n : Nat} {left : Int} (h : ¬ szL n left < 0) (h2 : left <= 1048576) : 0 <= szL n left /\ szL n left <= 1048576 := by have := szL_pos h; omega
theorem laws_szLand (x : DLand) (left : Int) (h1 : 0 <= left) (h2 : left <= 1048576) (hx : x.wf) : SC Tryz.prog 40 [.ag x.ats, .at (.v (.int .i64 left))] [] (.at (.v (.int .i64 (szL x.cells.length left)))) [] := by
 obtain ⟨_, _, _, hc⟩ := hx
 refine SC.of_V mixed Tryz.func40 (by kernel_rfl) rfl Tryz.results40 _ Tryz.ntmps40 (by simp) ?_
 simp -implicitDefEqProofs only [go_sem]
 refine callX [] (laws_szIntS x.cells left h1 h2 hc) (by simp -implicitDefEqProofs only [go_sem]) ?_
 simp -implicitDefEqProofs only [go_sem]
 exact fun h => (szL_lt h).symm
theorem laws_szParty (x : DParty) (left : Int) (h1 : 0 <= left) (h2 : left <= 1048576) (hx : x.wf) : SC Tryz.prog 42 [.ag x.ats, .at (.v (.int .i64 left))] [] (.at (.v (.int .i64 (szL (x.crew.length + x.past.length) left)))) [] := by
 obtain ⟨_, _, _, hc, hp⟩ := hx
 refine SC.of_V mixed Tryz.func42 (by kernel_rfl) rfl Tryz.results42 _ Tryz.ntmps42 (by simp) ?_
 simp -implicitDefEqProofs only [go_sem]
 refine callX [] (laws_szMemberS x.crew left h1 h2 hc) (by simp -implicitDefEqProofs only [go_sem]) ?_
 simp -implicitDefEqProofs only [go_sem]
 refine ⟨fun h => by rw [szL_neg' h h1], fun h => ?_⟩
 have hi := szL_in h h2
 refine callX [] (laws_szBoolS x.past _ hi.1 hi.2 hp) (by simp -implicitDefEqProofs only [go_sem]) ?_
 simp -implicitDefEqProofs only [go_sem]
 rw [szL_szL h]
 exact ⟨fun h => (szL_lt h).symm, fun _ => rfl⟩
theorem laws_szTrek (x : DTrek) (left : Int) (h1 : 0 <= left) (h2 : left <= 1048576) (hx : x.wf) : SC Tryz.prog 18 [.ag x.ats, .at (.v (.int .i64 left))] [] (.at (.v (.int .i64 (szL (x.land.cells.length + x.depots.length + (x.party.crew.length + x.party.past.length) + x.journal.length) left)))) [] := by
 obtain ⟨hl, _, _, _, hd, hp, _, hj, _⟩ := hx
 refine SC.of_V mixed Tryz.func18 (by kernel_rfl) rfl Tryz.results18 _ Tryz.ntmps18 (by simp) ?_
 simp -implicitDefEqProofs only [go_sem]
 refine callX [] (laws_szLand x.land left h1 h2 hl) (by simp -implicitDefEqProofs only [go_sem]) ?_
 simp -implicitDefEqProofs only [go_sem]
 refine ⟨fun h => by rw [Nat.add_assoc, Nat.add_assoc, szL_neg' h h1], fun h => ?_⟩
 have hi := szL_in h h2
 refine callX [] (laws_szDepotS x.depots _ hi.1 hi.2 hd) (by simp -implicitDefEqProofs only [go_sem]) ?_
 simp -implicitDefEqProofs only [go_sem]
 rw [szL_szL h]
 clear h hi
 refine ⟨fun h => by rw [Nat.add_assoc, szL_neg' h h1], fun h => ?_⟩
 have hi := szL_in h h2
 refine callX [] (laws_szParty x.party _ hi.1 hi.2 hp) (by simp -implicitDefEqProofs only [go_sem]) ?_
 simp -implicitDefEqProofs only [go_sem]
 rw [szL_szL h]
 clear h hi
 refine ⟨fun h => by rw [szL_neg' h h1], fun h => ?_⟩
 have hi := szL_in h h2
 refine callX [] (laws_szPageS x.journal _ hi.1 hi.2 hj) (by simp -implicitDefEqProofs only [go_sem]) ?_
 simp -implicitDefEqProofs only [go_sem]
 rw [szL_szL h]
 exact ⟨fun h => (szL_lt h).symm, fun _ => rfl⟩
theorem laws_toLand (x : DLand) (h : x.cells.length <= 1048576) : SC Tryz.prog 53 [.ag x.ats] [] (.ag x.frs) [] := by
 refine SC.of_W mixed Tryz.func53 (by kernel_rfl) rfl Tryz.results53 _ Tryz.ntmps53 (by simp) ?_
 simp -implicitDefEqProofs only [go_sem]
 refine callX [] (laws_toIntS x.cells h) (by simp -implicitDefEqProofs only [go_sem]) ?_
 simp -implicitDefEqProofs only [go_sem]
theorem laws_toRule (x : DRule) : SC Tryz.prog 54 [.ag x.ats] [] (.ag x.ats) [] := by
 refine SC.of_W mixed Tryz.func54 (by kernel_rfl) rfl Tryz.results54 _ Tryz.ntmps54 (by simp) ?_
 simp -implicitDefEqProofs only [go_sem]
theorem laws_toParty (x : DParty) (h : x.crew.length <= 1048576) (h2 : x.past.length <= 1048576) : SC Tryz.prog 56 [.ag x.ats] [] (.ag x.frs) [] := by
 refine SC.of_W mixed Tryz.func56 (by kernel_rfl) rfl Tryz.results56 _ Tryz.ntmps56 (by simp) ?_
 simp -implicitDefEqProofs only [go_sem]
 refine callX [] (laws_toMemberS x.crew h) (by simp -implicitDefEqProofs only [go_sem]) ?_
 simp -implicitDefEqProofs only [go_sem]
 refine callX [] (laws_toBoolS x.past h2) (by simp -implicitDefEqProofs only [go_sem]) ?_
 simp -implicitDefEqProofs only [go_sem]
theorem laws_toTrek (x : DTrek) (h : x.land.cells.length + x.depots.length + (x.party.crew.length + x.party.past.length) + x.journal.length <= 1048576) : SC Tryz.prog 20 [.ag x.ats] [] (.ag x.frs) [] := by
 refine SC.of_W mixed Tryz.func20 (by kernel_rfl) rfl Tryz.results20 _ Tryz.ntmps20 (by simp) ?_
 simp -implicitDefEqProofs only [go_sem]
 refine callX [] (laws_toLand x.land (by omega)) (by simp -implicitDefEqProofs only [go_sem]) ?_
 simp -implicitDefEqProofs only [go_sem]
 refine callX [] (laws_toRule x.rule) (by simp -implicitDefEqProofs only [go_sem]) ?_
 simp -implicitDefEqProofs only [go_sem]
 refine callX [] (laws_toDepotS x.depots (by omega)) (by simp -implicitDefEqProofs only [go_sem]) ?_
 simp -implicitDefEqProofs only [go_sem]
 refine callX [] (laws_toParty x.party (by omega) (by omega)) (by simp -implicitDefEqProofs only [go_sem]) ?_
 simp -implicitDefEqProofs only [go_sem]
 refine callX [] (laws_toPageS x.journal (by omega)) (by simp -implicitDefEqProofs only [go_sem]) ?_
 simp -implicitDefEqProofs only [go_sem]
theorem laws_eqLand (a b : DLand) (ha : a.cells.length <= 1099511627776) : SC Tryz.prog 58 [.ag a.ats, .ag b.ats] [] (.at (.v (.bool (decide (a = b))))) [] := by
 refine SC.of_V mixed Tryz.func58 (by kernel_rfl) rfl Tryz.results58 _ Tryz.ntmps58 (by simp) ?_
 simp -implicitDefEqProofs only [go_sem]
 refine ⟨fun h => ?_, fun h1 => ⟨fun h => ?_, fun h2 => ?_⟩⟩
 ·exact (decide_eq_false (by rintro rfl; exact h rfl)).symm
 ·exact (decide_eq_false (by rintro rfl; exact h rfl)).symm
 refine callX [] (laws_eqIntS a.cells b.cells ha) (by simp -implicitDefEqProofs only [go_sem]) ?_
 simp -implicitDefEqProofs only [go_sem]
 obtain ⟨a1, a2, a3⟩ := a; obtain ⟨b1, b2, b3⟩ := b
 simp only [DLand.mk.injEq] at *
 grind
theorem laws_eqRule (a b : DRule) : SC Tryz.prog 59 [.ag a.ats, .ag b.ats] [] (.at (.v (.bool (decide (a = b))))) [] := by
 refine SC.of_V mixed Tryz.func59 (by kernel_rfl) rfl Tryz.results59 _ Tryz.ntmps59 (by simp) ?_
 simp -implicitDefEqProofs only [go_sem]
 obtain ⟨a1, a2⟩ := a; obtain ⟨b1, b2⟩ := b
 simp only [DRule.mk.injEq]
 grind
theorem laws_eqParty (a b : DParty) (ha : a.crew.length <= 1099511627776) (ha2 : a.past.length <= 1099511627776) : SC Tryz.prog 61 [.ag a.ats, .ag b.ats] [] (.at (.v (.bool (decide (a = b))))) [] := by
 refine SC.of_V mixed Tryz.func61 (by kernel_rfl) rfl Tryz.results61 _ Tryz.ntmps61 (by simp) ?_
 simp -implicitDefEqProofs only [go_sem]
 refine ⟨fun h => ?_, fun h1 => ⟨fun h => ?_, fun h2 => ?_⟩⟩
 ·exact (decide_eq_false (by rintro rfl; exact h rfl)).symm
 ·exact (decide_eq_false (by rintro rfl; exact h rfl)).symm
 refine callX [] (laws_eqMemberS a.crew b.crew ha) (by simp -implicitDefEqProofs only [go_sem]) ?_
 simp -implicitDefEqProofs only [go_sem]
 refine ⟨fun h => ?_, fun h3 => ?_⟩
 ·exact (decide_eq_false (by rintro rfl; exact h rfl)).symm
 refine callX [] (laws_eqBoolS a.past b.past ha2) (by simp -implicitDefEqProofs only [go_sem]) ?_
 simp -implicitDefEqProofs only [go_sem]
 obtain ⟨a1, a2, a3, a4⟩ := a; obtain ⟨b1, b2, b3, b4⟩ := b
 simp only [DParty.mk.injEq] at *
 grind
theorem laws_eqTrek (a b : DTrek) (h1 : a.land.cells.length <= 1099511627776) (h2 : a.depots.length <= 1099511627776) (h3 : a.party.crew.length <= 1099511627776) (h4 : a.party.past.length <= 1099511627776) (h5 : a.journal.length <= 1099511627776) : SC Tryz.prog 21 [.ag a.ats, .ag b.ats] [] (.at (.v (.bool (decide (a = b))))) [] := by
 refine SC.of_V mixed Tryz.func21 (by kernel_rfl) rfl Tryz.results21 _ Tryz.ntmps21 (by simp) ?_
 simp -implicitDefEqProofs only [go_sem]
 refine callX [] (laws_eqLand a.land b.land h1) (by simp -implicitDefEqProofs only [go_sem]) ?_
 simp -implicitDefEqProofs only [go_sem]
 refine ⟨fun h => ?_, fun e1 => ⟨fun h => ?_, fun e2 => ?_⟩⟩
 ·exact (decide_eq_false (by rintro rfl; exact h rfl)).symm
 ·exact (decide_eq_false (by rintro rfl; exact h rfl)).symm
 refine callX [] (laws_eqRule a.rule b.rule) (by simp -implicitDefEqProofs only [go_sem]) ?_
 simp -implicitDefEqProofs only [go_sem]
 refine ⟨fun h => ?_, fun e3 => ?_⟩
 ·exact (decide_eq_false (by rintro rfl; exact h rfl)).symm
 refine callX [] (laws_eqDepotS a.depots b.depots h2) (by simp -implicitDefEqProofs only [go_sem]) ?_
 simp -implicitDefEqProofs only [go_sem]
 refine ⟨fun h => ?_, fun e4 => ?_⟩
 ·exact (decide_eq_false (by rintro rfl; exact h rfl)).symm
 refine callX [] (laws_eqParty a.party b.party h3 h4) (by simp -implicitDefEqProofs only [go_sem]) ?_
 simp -implicitDefEqProofs only [go_sem]
 refine ⟨fun h => ?_, fun e5 => ?_⟩
 ·exact (decide_eq_false (by rintro rfl; exact h rfl)).symm
 refine callX [] (laws_eqPageS a.journal b.journal h5) (by simp -implicitDefEqProofs only [go_sem]) ?_
 simp -implicitDefEqProofs only [go_sem]
 obtain ⟨a1, a2, a3, a4, a5, a6, a7, a8, a9⟩ := a; obtain ⟨b1, b2, b3, b4, b5, b6, b7, b8, b9⟩ := b
 simp only [DTrek.mk.injEq] at *
 grind
theorem laws_markLand (x : DLand) (k : Int) (h1 : 0 <= k) (h2 : k <= 562949953421312) (hc : x.cells.length <= 1099511627776) : SC Tryz.prog 63 [.ag [.v (.int .i64 x.w), .v (.int .i64 x.h), .ow 0 0 1 x.cells.length], .at (.v (.int .i64 k))] [.arr 0 1 (x.cells.map intRow)] (.at (.v (.int .i64 (k + 1 * x.cells.length)))) [.arr 0 1 (marks markInt 1 k x.cells.length)] := by
 refine SC.of_M mixed Tryz.func63 (by kernel_rfl) rfl Tryz.results63 _ Tryz.ntmps63 (by simp) (by simp) ?_
 simp -implicitDefEqProofs only [go_sem, invOf]
 refine callXM [0] (laws_markIntS x.cells k h1 (by omega) hc) (by decide) (by simp -implicitDefEqProofs only [go_sem]) ?_
 simp -implicitDefEqProofs only [go_sem]
theorem laws_markParty (x : DParty) (k : Int) (h1 : 0 <= k) (h2 : k <= 562949953421312) (hc : x.crew.length <= 1099511627776) (hp : x.past.length <= 1099511627776) : SC Tryz.prog 65 [.ag [.v (.int .i64 x.at_), .v (.int .i64 x.food), .ow 0 0 4 x.crew.length, .ow 1 0 1 x.past.length], .at (.v (.int .i64 k))] [.arr 0 4 (x.crew.map DMember.row), .arr 0 1 (x.past.map boolRow)] (.at (.v (.int .i64 (k + 4 * x.crew.length + 1 * x.past.length)))) [.arr 0 4 (marks markMember 4 k x.crew.length), .arr 0 1 (marks markBool 1 (k + 4 * x.crew.length) x.past.length)] := by
 refine SC.of_M mixed Tryz.func65 (by kernel_rfl) rfl Tryz.results65 _ Tryz.ntmps65 (by simp) (by simp) ?_
 simp -implicitDefEqProofs only [go_sem, invOf]
 refine callXM [0] (laws_markMemberS x.crew k h1 (by omega) hc) (by decide) (by simp -implicitDefEqProofs only [go_sem]) ?_
 simp -implicitDefEqProofs only [go_sem]
 refine callXM [1] (laws_markBoolS x.past (k + 4 * x.crew.length) (by omega) (by omega) hp) (by decide) (by simp -implicitDefEqProofs only [go_sem]) ?_
 simp -implicitDefEqProofs only [go_sem]
theorem laws_heldLand (x : DLand) (k : Int) (h1 : 0 <= k) (h2 : k <= 562949953421312) (hc : x.cells.length <= 1099511627776) : SC Tryz.prog 67 [.ag [.v (.int .i64 x.w), .v (.int .i64 x.h), .im 1 (marks markInt 1 k x.cells.length)], .at (.v (.int .i64 k))] [] (.at (.v (.int .i64 (k + 1 * x.cells.length)))) [] := by
 refine SC.of_V mixed Tryz.func67 (by kernel_rfl) rfl Tryz.results67 _ Tryz.ntmps67 (by simp) ?_
 simp -implicitDefEqProofs only [go_sem]
 refine callX [] (laws_heldIntS x.cells.length k h1 (by omega) hc) (by simp -implicitDefEqProofs only [go_sem]) ?_
 simp -implicitDefEqProofs only [go_sem]
 exact fun h => absurd h (by omega)
theorem laws_heldParty (x : DParty) (k : Int) (h1 : 0 <= k) (h2 : k <= 562949953421312) (hc : x.crew.length <= 1099511627776) (hp : x.past.length <= 1099511627776) : SC Tryz.prog 69 [.ag [.v (.int .i64 x.at_), .v (.int .i64 x.food), .im 4 (marks markMember 4 k x.crew.length), .im 1 (marks markBool 1 (k + 4 * x.crew.length) x.past.length)], .at (.v (.int .i64 k))] [] (.at (.v (.int .i64 (k + 4 * x.crew.length + 1 * x.past.length)))) [] := by
 refine SC.of_V mixed Tryz.func69 (by kernel_rfl) rfl Tryz.results69 _ Tryz.ntmps69 (by simp) ?_
 simp -implicitDefEqProofs only [go_sem]
 refine callX [] (laws_heldMemberS x.crew.length k h1 (by omega) hc) (by simp -implicitDefEqProofs only [go_sem]) ?_
 simp -implicitDefEqProofs only [go_sem]
 refine ⟨fun h => absurd h (by omega), fun _ => ?_⟩
 refine callX [] (laws_heldBoolS x.past.length (k + 4 * x.crew.length) (by omega) (by omega) hp) (by simp -implicitDefEqProofs only [go_sem]) ?_
 simp -implicitDefEqProofs only [go_sem]
 exact fun h => absurd h (by omega)
end Go.Abs
