/- The events of the way home. -/
import Derived.Test.YtgnomlceahpbkaaGreatATrekH
namespace Go.Abs
open Go.RowKit Go.Proofs
set_option linter.unusedVariables false
set_option linter.unusedSimpArgs false
set_option maxRecDepth 100000
set_option maxHeartbeats 4000000

def homeEv (s : Bool) : DEvent := ⟨4, 0, s⟩
noncomputable def homeEvZ (t : DTrek) : List DEvent := if trekP t then (homeOf t.land t.base t.rule t.depots t.party).2.1.map homeEv else []
theorem wayZ_days {x : DLand} {a b : Int} (h : wayZ x a b ≠ []) : ((wayZ x a b).drop 1).length = (daysZ x a b).toNat ∧ 0 ≤ daysZ x a b ∧ daysZ x a b ≤ 65 := by
  have hd : ¬ daysZ x a b < 0 := fun hd => h (by rw [wayZ, if_pos hd])
  have hop : x.Open a ∧ x.Open b := by
    refine Decidable.byContradiction fun hn => hd ?_
    rw [daysZ, if_neg hn]; decide
  have h0 : 0 ≤ dist (stepsZ x [a]) b := by rw [daysZ, if_pos hop] at hd; omega
  have hrev := steps_rev hop.1 hop.2 h0
  have hb := (daysZ_bnd x a b).2
  refine ⟨?_, by omega, hb⟩
  rw [wayZ, if_neg hd, List.length_drop, wayF_len, hrev, daysZ, if_pos hop]
  omega
theorem homeEvZ_len {t : DTrek} {N : Nat} (h : 62866 ≤ N) : (homeEvZ t).length ≤ N := by
  by_cases ht : trekP t
  · rw [homeEvZ, if_pos ht, List.length_map]
    have hf := ht.1.1.1.2.2.2.2.1
    have hk := pick_food (n := foodAt t.party.at_ t.depots) hf
    have hl := wayZ_len t.land t.party.at_ t.base
    have := (homeW_len (r := t.rule) (l := t.depots) (p := pickZ t.party (foodAt t.party.at_ t.depots)) (rest := (wayZ t.land t.party.at_ t.base).drop 1) (by omega) (by simp; omega)).1
    exact Nat.le_trans this h
  · rw [homeEvZ, if_neg ht]; exact Nat.zero_le _
theorem wrap64' {x y : Int} (h : x = y) (h1 : -9223372036854775808 ≤ x) (h2 : x ≤ 9223372036854775807) : IntKind.i64.wrap x = y := by rw [wrap64 h1 (by omega), h]
theorem homeEv_len0 {t : DTrek} (ht : trekP t) : (homeOf t.land t.base t.rule t.depots t.party).2.1.length ≤ 62866 := by
  have := homeEvZ_len (t := t) (Nat.le_refl 62866)
  rw [homeEvZ, if_pos ht, List.length_map] at this
  exact this
theorem evS {l : List Bool} {b : Bool} : (l.map homeEv).map DEvent.row ++ [[.int .i64 4, .int .i64 0, .bool b]] = ((l ++ [b]).map homeEv).map DEvent.row := by simp [homeEv, DEvent.row]
theorem impl_HomeEvents (t : DTrek) (h : t.Fit) : SC Tryz.prog 118 [.ag t.ats] [] (.at (.fr 3 ((homeEvZ t).map DEvent.row))) [] := by
  refine SC.of_W mixed Tryz.func118 (by kernel_rfl) rfl Tryz.results118 _ Tryz.ntmps118 (by simp) ?_
  simp -implicitDefEqProofs only [go_sem]
  refine callX [] (impl_IsTrek t h) (by simp -implicitDefEqProofs only [go_sem]) ?_
  simp -implicitDefEqProofs only [go_sem]
  refine ⟨fun ht => by rw [homeEvZ, if_neg ht]; exact ⟨rfl, rfl⟩, fun ht => ?_⟩
  refine ⟨some [], by decide +kernel, ?_⟩
  simp -implicitDefEqProofs only [go_sem]
  refine callXQ [] (impl_WayTo t.land t.party.at_ t.base h.cells) (by simp -implicitDefEqProofs only [go_sem]) ?_
  simp -implicitDefEqProofs only [go_sem]
  have hb := ht.1
  have hwl := wayZ_len t.land t.party.at_ t.base
  refine callXQ [1320] (impl_worst (wayZ t.land t.party.at_ t.base) t.rule t.depots t.party hwl h.crew hb.past hb.food h.depots) (by simp -implicitDefEqProofs only [go_sem]) ?_
  simp -implicitDefEqProofs only [go_sem]
  have hl := (homeEv_len0 ht)
  rw [homeEvZ, if_pos ht, homeOf]
  unfold homeOf at hl
  generalize (homeW t.rule t.depots (pickZ t.party (foodAt t.party.at_ t.depots)) ((wayZ t.land t.party.at_ t.base).drop 1)).2.1 = D at hl ⊢
  refine T.loopW mixed [6, 32, 33, 34] (fun mm vs es => ∃ (i : Nat), vs = [.at (.ow 100 0 3 i), .at (.ow 101 0 1 D.length), .at (.v (.int .i64 (D.length : Nat))), .at (.v (.int .i64 (i : Nat)))] ∧ es = [.arr 0 3 (((D.take i).map homeEv).map DEvent.row), .arr 0 1 (D.map boolRow)] ∧ mm + i = D.length ∧ i ≤ D.length) D.length ?_ ?_
  · simp -implicitDefEqProofs only [go_sem]
    exact ⟨0, ⟨rfl, rfl⟩, rfl, rfl, Nat.zero_le _⟩
  rintro q _ _ ⟨i, rfl, rfl, hq, hi⟩
  simp -implicitDefEqProofs only [go_sem]
  refine ⟨fun hlt => ?_, fun hlt => ?_⟩
  · refine ⟨by omega, by omega, fun b hb2 => ⟨by unfold Room; omega, q - 1, by omega, i + 1, ⟨by omega, wrap64 (by omega) (by omega)⟩, ?_, by omega, by omega⟩⟩
    rw [evS, List.take_add_one, hb2]; rfl
  · rw [List.take_of_length_le (by omega)]
    exact ⟨by omega, rfl⟩
theorem spec_HomeEvents (t : DTrek) (h : t.Fit) : SC Tryz.prog 117 [.ag t.ats] [] (.at (.fr 3 ((homeEvZ t).map DEvent.row))) [] := by
  refine SC.of_W mixed Tryz.func117 (by kernel_rfl) rfl Tryz.results117 _ Tryz.ntmps117 (by simp) ?_
  simp -implicitDefEqProofs only [go_sem]
  refine callX [] (spec_IsTrek t h) (by simp -implicitDefEqProofs only [go_sem]) ?_
  simp -implicitDefEqProofs only [go_sem]
  refine ⟨fun ht => by rw [homeEvZ, if_neg ht]; exact ⟨rfl, rfl⟩, fun ht => ?_⟩
  have hb := ht.1
  refine ⟨room_s h.past (by decide), ?_⟩
  refine callX [] (spec_Days t.land t.party.at_ t.base h.cells) (by simp -implicitDefEqProofs only [go_sem]) ?_
  simp -implicitDefEqProofs only [go_sem]
  have hwd := wayZ_days hb.1.2
  have hl := homeEv_len0 ht
  have hok := hb.2
  have hW0 : HomeTo (homeOf t.land t.base t.rule t.depots t.party) t.rule t.depots (pickZ t.party (foodAt t.party.at_ t.depots)) ((wayZ t.land t.party.at_ t.base).drop 1) [] := by simp [HomeTo, preW, homeOf]
  rw [homeEvZ, if_pos ht]
  generalize homeOf t.land t.base t.rule t.depots t.party = W at hl hok hW0 ⊢
  have hpf := pick_food (n := foodAt t.party.at_ t.depots) hb.food
  have hpp := hb.past
  have hwl := wayZ_len t.land t.party.at_ t.base
  refine T.loopW mixed [1, 3, 4, 5] (fun mm vs es => ∃ (y : DParty) (rest : List Int) (days : List Bool), vs = [.at (.bx 100 0 0), .at (.ow 101 0 3 days.length), .at (.ow 102 0 1 y.past.length), .at (.v (.int .i64 (rest.length : Nat)))] ∧ es = [.box 0 t.ats, .arr 0 3 ((days.map homeEv).map DEvent.row), .arr 0 1 (y.past.map boolRow)] ∧ mm = 801 * rest.length + y.food.toNat ∧ HomeTo W t.rule t.depots y rest days ∧ (0 ≤ y.food ∧ y.food ≤ 10000) ∧ (rest.length ≤ 66 ∧ y.past.length ≤ 10)) (801 * ((wayZ t.land t.party.at_ t.base).drop 1).length + (pickZ t.party (foodAt t.party.at_ t.depots)).food.toNat) ?_ ?_
  · simp -implicitDefEqProofs only [go_sem]
    refine ⟨pickZ t.party (foodAt t.party.at_ t.depots), (wayZ t.land t.party.at_ t.base).drop 1, [], ⟨rfl, rfl, ?_⟩, ⟨rfl, rfl⟩, by rw [List.length_drop], hW0, by omega, by rw [List.length_drop]; omega, hpp⟩
    rw [hwd.1]; omega
  rintro q _ _ ⟨y, rest, days, rfl, rfl, hq, hW, hy, hr, hyp⟩
  simp -implicitDefEqProofs only [go_sem]
  have hdl : days.length ≤ W.2.1.length := by unfold HomeTo at hW; rw [hW]; simp [preW]
  cases rest with
  | nil =>
    refine ⟨fun hlt => absurd hlt (by simp), fun _ => ?_⟩
    have := home_end hW
    rw [this]
    exact ⟨rfl, rfl⟩
  | cons c rest =>
    refine ⟨fun _ => ?_, fun hlt => absurd hlt (by simp)⟩
    have he : eatP y := Decidable.byContradiction fun he => by rw [home_none hW he] at hok; exact absurd hok (by simp)
    refine callX [102] (spec_MayStorm t.rule y.past (by omega)) (by simp -implicitDefEqProofs only [go_sem]) ?_
    simp -implicitDefEqProofs only [go_sem]
    refine callX [102] (spec_AddDay y.past (decide (mayP t.rule y.past)) (by omega)) (by simp -implicitDefEqProofs only [go_sem]) ?_
    simp -implicitDefEqProofs only [go_sem]
    have ef := eat_food he
    rw [List.length_cons] at hq hr
    refine ⟨fun hm => ?_, fun hm => ?_⟩
    · have hdf : decide (mayP t.rule y.past) = false := decide_eq_false hm
      rw [hdf]
      have hcf := calm_food (l := t.depots) (c := c) he
      have hpk := pick_food (p := { eatZ y with at_ := c }) (n := foodAt c t.depots) (by show _ ≤ (eatZ y).food ∧ (eatZ y).food ≤ _; omega)
      exact ⟨by unfold Room; omega, 801 * rest.length + (calmZ t.depots y c).food.toNat, by omega, calmZ t.depots y c, rest, days ++ [false], ⟨by simp, rfl, wrap64' (by omega) (by omega) (by omega)⟩, ⟨evS, rfl⟩, rfl, home_calm hW he hm, ⟨hpk.1, hpk.2.1⟩, by omega, addDay_len _ _⟩
    · have hdf : decide (mayP t.rule y.past) = true := decide_eq_true hm
      rw [hdf]
      have hcf := storm_food he
      exact ⟨by unfold Room; omega, 801 * (rest.length + 1) + (stormZ' y).food.toNat, by omega, stormZ' y, c :: rest, days ++ [true], ⟨by simp, rfl, rfl⟩, ⟨evS, rfl⟩, rfl, home_storm hW he hm, (by show _ ≤ (eatZ y).food ∧ (eatZ y).food ≤ _; omega), hr, addDay_len _ _⟩
end Go.Abs
