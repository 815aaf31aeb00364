/- The events of the way home. -/
import Derived.Test.YtmiajpljlkdhcaaGreatDoorATrekH
namespace Go.Abs
open Go.RowKit Go.Proofs
set_option linter.unusedVariables false
set_option linter.unusedSimpArgs false
set_option maxRecDepth 100000
set_option maxHeartbeats 4000000

def homeEv (s : Bool) : DEvent := ⟨4, 0, s⟩
noncomputable def homeEvZ (t : DTrek) : List DEvent := if trekP t then (homeOf t.land t.base t.rule t.depots t.party).2.1.map homeEv else []
theorem wayZ_days {x : DLand} {a b : Int} (h : wayZ x a b ≠ []) : ((wayZ x a b).drop 1).length = (daysZ x a b).toNat ∧ 0 ≤ daysZ x a b ∧ daysZ x a b ≤ 65 := by
  have hd : ¬ daysZ x a b < 0 := fun hd => h (by rw [wayZ, if_pos hd])
  have hop : x.Open a ∧ x.Open b := by
    refine Decidable.byContradiction fun hn => hd ?_
    rw [daysZ, if_neg hn]; decide
  have h0 : 0 ≤ dist (stepsZ x [a]) b := by rw [daysZ, if_pos hop] at hd; omega
  have hrev := steps_rev hop.1 hop.2 h0
  have hb := (daysZ_bnd x a b).2
  refine ⟨?_, by omega, hb⟩
  rw [wayZ, if_neg hd, List.length_drop, wayF_len, hrev, daysZ, if_pos hop]
  omega
theorem homeEvZ_len {t : DTrek} {N : Nat} (h : 62866 ≤ N) : (homeEvZ t).length ≤ N := by
  by_cases ht : trekP t
  · rw [homeEvZ, if_pos ht, List.length_map]
    have hf := ht.1.1.1.2.2.2.2.1
    have hk := pick_food (n := foodAt t.party.at_ t.depots) hf
    have hl := wayZ_len t.land t.party.at_ t.base
    have := (homeW_len (r := t.rule) (l := t.depots) (p := pickZ t.party (foodAt t.party.at_ t.depots)) (rest := (wayZ t.land t.party.at_ t.base).drop 1) (by omega) (by simp; omega)).1
    exact Nat.le_trans this h
  · rw [homeEvZ, if_neg ht]; exact Nat.zero_le _
theorem wrap64' {x y : Int} (h : x = y) (h1 : -9223372036854775808 ≤ x) (h2 : x ≤ 9223372036854775807) : IntKind.i64.wrap x = y := by rw [wrap64 h1 (by omega), h]
theorem homeEv_len0 {t : DTrek} (ht : trekP t) : (homeOf t.land t.base t.rule t.depots t.party).2.1.length ≤ 62866 := by
  have := homeEvZ_len (t := t) (Nat.le_refl 62866)
  rw [homeEvZ, if_pos ht, List.length_map] at this
  exact this
theorem evS {l : List Bool} {b : Bool} : (l.map homeEv).map DEvent.row ++ [[.int .i64 4, .int .i64 0, .bool b]] = ((l ++ [b]).map homeEv).map DEvent.row := by simp [homeEv, DEvent.row]
end Go.Abs
