/- The worst way home. -/
import Derived.Test.YthobmgkagcampaaGreatDoorAHome
namespace Go.Abs
open Go.RowKit Go.Proofs
set_option linter.all false
set_option maxRecDepth 100000
theorem addDay_len (l : List Bool) (b : Bool) : (addDay l b).length <= 10 := by
 simp only [addDay, List.length_drop, List.length_append, List.length_cons, List.length_nil]; omega
theorem pick_food {p : DParty} {n : Int} (h : 0 <= p.food /\ p.food <= 10000) : 0 <= (pickZ p n).food /\ (pickZ p n).food <= 10000 /\ (pickZ p n).food <= p.food + 800 := by
 have h1 := pickN_bnd p n
 have h2 := capZ_bnd p.crew
 show 0 <= p.food + pickN p n /\ p.food + pickN p n <= 10000 /\ p.food + pickN p n <= p.food + 800
 have : pickN p n <= roomZ p := by
  have := roomZ_bnd p
  unfold pickN; omega
 unfold roomZ at this
 split at this <;> omega
noncomputable def calmZ (l : List DDepot) (p : DParty) (c : Int) : DParty := { pickZ { eatZ p with at_ := c } (foodAt c l) with past := addDay p.past false }
noncomputable def stormZ' (p : DParty) : DParty := { eatZ p with past := addDay p.past true }
theorem eat_food {p : DParty} (h : eatP p) : (eatZ p).food = p.food - needZ p.crew /\ 1 <= needZ p.crew /\ needZ p.crew <= p.food := by
 rw [eatZ, if_pos h]; exact ⟨rfl, needZ_pos h.1, h.2⟩
theorem eat_crew (p : DParty) : (eatZ p).crew = p.crew /\ (eatZ p).past = p.past /\ (eatZ p).at_ = p.at_ := by
 unfold eatZ; split <;> exact ⟨rfl, rfl, rfl⟩
theorem storm_food {p : DParty} (h : eatP p) : (stormZ' p).food.toNat < p.food.toNat := by
 have := eat_food h
 show (eatZ p).food.toNat < _
 omega
theorem calm_food {p : DParty} {l : List DDepot} {c : Int} (h : eatP p) : (calmZ l p c).food.toNat < p.food.toNat + 800 := by
 have h1 := eat_food h
 have h2 := pickN_bnd { eatZ p with at_ := c } (foodAt c l)
 show ((eatZ p).food + pickN { eatZ p with at_ := c } (foodAt c l)).toNat < _
 omega
def preW (d : List Bool) (W : Int × List Bool × Bool) : Int × List Bool × Bool := (W.1, d ++ W.2.1, W.2.2)
theorem preW_preW {d e : List Bool} {W : Int × List Bool × Bool} : preW d (preW e W) = preW (d ++ e) W := by simp [preW]
noncomputable def homeW (r : DRule) (l : List DDepot) (p : DParty) (rest : List Int) : Int × List Bool × Bool :=
 match rest with
 | [] => (p.food, [], true)
 | c :: rest' =>
  if h : eatP p then
   if mayP r p.past then
    preW [true] (homeW r l (stormZ' p) (c :: rest'))
   else
    preW [false] (homeW r l (calmZ l p c) rest')
  else (0, [], false)
termination_by 801 * rest.length + p.food.toNat
decreasing_by
 ·have := storm_food h; simp only [List.length_cons]; omega
 ·have := calm_food (l := l) (c := c) h; simp only [List.length_cons]; omega
theorem homeW_nil {r : DRule} {l : List DDepot} {p : DParty} : homeW r l p [] = (p.food, [], true) := by rw [homeW]
theorem homeW_none {r : DRule} {l : List DDepot} {p : DParty} {c : Int} {rest : List Int} (h : ¬ eatP p) : homeW r l p (c :: rest) = (0, [], false) := by rw [homeW, dif_neg h]
theorem homeW_storm {r : DRule} {l : List DDepot} {p : DParty} {c : Int} {rest : List Int} (h : eatP p) (hm : mayP r p.past) : homeW r l p (c :: rest) = preW [true] (homeW r l (stormZ' p) (c :: rest)) := by rw [homeW, dif_pos h, if_pos hm]
theorem homeW_calm {r : DRule} {l : List DDepot} {p : DParty} {c : Int} {rest : List Int} (h : eatP p) (hm : ¬ mayP r p.past) : homeW r l p (c :: rest) = preW [false] (homeW r l (calmZ l p c) rest) := by rw [homeW, dif_pos h, if_neg hm]
theorem homeW_bnd (r : DRule) (l : List DDepot) : ∀ (n : Nat) (p : DParty) (rest : List Int), 801 * rest.length + p.food.toNat <= n -> 0 <= p.food -> (homeW r l p rest).2.1.length <= n /\ 0 <= (homeW r l p rest).1 := by
 intro n
 induction n with
 | zero =>
  intro p rest h hf
  cases rest with
  | nil => rw [homeW_nil]; exact ⟨by simp, hf⟩
  | cons c rest => simp only [List.length_cons] at h; omega
 | succ n ih =>
  intro p rest h hf
  cases rest with
  | nil => rw [homeW_nil]; exact ⟨by simp, hf⟩
  | cons c rest =>
   by_cases he : eatP p
   ·have h1 := eat_food he
    by_cases hm : mayP r p.past
    ·have := storm_food he
     have h2 := ih (stormZ' p) (c :: rest) (by omega) (by show 0 <= (eatZ p).food; omega)
     rw [homeW_storm he hm]
     simp only [preW, List.length_append, List.length_cons, List.length_nil]; exact ⟨by omega, h2.2⟩
    ·have := calm_food (l := l) (c := c) he
     have h3 := pickN_bnd { eatZ p with at_ := c } (foodAt c l)
     simp only [List.length_cons] at h
     have h2 := ih (calmZ l p c) rest (by omega) (by show 0 <= (eatZ p).food + pickN { eatZ p with at_ := c } (foodAt c l); omega)
     rw [homeW_calm he hm]
     simp only [preW, List.length_append, List.length_cons, List.length_nil]; exact ⟨by omega, h2.2⟩
   ·rw [homeW_none he]; exact ⟨by simp, by simp⟩
theorem homeW_len {r : DRule} {l : List DDepot} {p : DParty} {rest : List Int} (hf : 0 <= p.food /\ p.food <= 10000) (hr : rest.length <= 66) : (homeW r l p rest).2.1.length <= 62866 /\ 0 <= (homeW r l p rest).1 :=
 homeW_bnd r l 62866 p rest (by omega) hf.1
def HomeTo (W : Int × List Bool × Bool) (r : DRule) (l : List DDepot) (p : DParty) (rest : List Int) (days : List Bool) : Prop := W = preW days (homeW r l p rest)
theorem home_storm {W : Int × List Bool × Bool} {r : DRule} {l : List DDepot} {p : DParty} {c : Int} {rest : List Int} {days : List Bool} (hW : HomeTo W r l p (c :: rest) days) (h : eatP p) (hm : mayP r p.past) : HomeTo W r l (stormZ' p) (c :: rest) (days ++ [true]) := by
 unfold HomeTo at hW ⊢
 rw [hW, homeW_storm h hm, preW_preW]
theorem home_calm {W : Int × List Bool × Bool} {r : DRule} {l : List DDepot} {p : DParty} {c : Int} {rest : List Int} {days : List Bool} (hW : HomeTo W r l p (c :: rest) days) (h : eatP p) (hm : ¬ mayP r p.past) : HomeTo W r l (calmZ l p c) rest (days ++ [false]) := by
 unfold HomeTo at hW ⊢
 rw [hW, homeW_calm h hm, preW_preW]
theorem home_none {W : Int × List Bool × Bool} {r : DRule} {l : List DDepot} {p : DParty} {c : Int} {rest : List Int} {days : List Bool} (hW : HomeTo W r l p (c :: rest) days) (h : ¬ eatP p) : W = (0, days, false) := by
 unfold HomeTo at hW
 rw [hW, homeW_none h]; simp [preW]
theorem home_end {W : Int × List Bool × Bool} {r : DRule} {l : List DDepot} {p : DParty} {days : List Bool} (hW : HomeTo W r l p [] days) : W = (p.food, days, true) := by
 unfold HomeTo at hW
 rw [hW, homeW_nil]; simp [preW]
def DParty.own (p : DParty) (a b : Nat) : List A := [.v (.int .i64 p.at_), .v (.int .i64 p.food), .ow a 0 4 p.crew.length, .ow b 0 1 p.past.length]
attribute [go_sem] DParty.own
theorem impl_worst (way : List Int) (r : DRule) (l : List DDepot) (p : DParty) (hw : way.length <= 66) (h1 : p.crew.length <= 1048576) (h2 : p.past.length <= 10) (hf : 0 <= p.food /\ p.food <= 10000) (hl : l.length <= 1048576) :
  SC Tryz.prog 183 [.at (.im 1 (way.map intRow)), .ag r.ats, .at (.im 2 (l.map DDepot.row)), .ag p.ats] [] (.tp [.at (.v (.int .i64 ((homeW r l (pickZ p (foodAt p.at_ l)) (way.drop 1)).1))), .at (.fr 1 ((homeW r l (pickZ p (foodAt p.at_ l)) (way.drop 1)).2.1.map boolRow)), .at (.v (.bool ((homeW r l (pickZ p (foodAt p.at_ l)) (way.drop 1)).2.2)))]) [] := by
 refine SC.of_W mixed Tryz.func183 (by kernel_rfl) rfl Tryz.results183 _ Tryz.ntmps183 (by simp) ?_
 simp -implicitDefEqProofs only [go_sem]
 refine ⟨some [], by decide +kernel, ?_⟩
 simp -implicitDefEqProofs only [go_sem]
 refine callXQ [] (impl_FoodAt l p.at_ hl) (by simp -implicitDefEqProofs only [go_sem]) ?_
 simp -implicitDefEqProofs only [go_sem]
 refine callXQ [] (impl_PickUp p (foodAt p.at_ l) h1 (by omega) (by omega)) (by simp -implicitDefEqProofs only [go_sem]) ?_
 simp -implicitDefEqProofs only [go_sem]
 have hb := homeW_len (r := r) (l := l) (p := pickZ p (foodAt p.at_ l)) (rest := way.drop 1) (by have := pick_food (n := foodAt p.at_ l) hf; omega) (by simp; omega)
 have hW0 : HomeTo (homeW r l (pickZ p (foodAt p.at_ l)) (way.drop 1)) r l (pickZ p (foodAt p.at_ l)) (way.drop 1) [] := by simp [HomeTo, preW]
 generalize homeW r l (pickZ p (foodAt p.at_ l)) (way.drop 1) = W at hb hW0 ⊢
 have hpf := pick_food (n := foodAt p.at_ l) hf
 refine T.loopW mixed [0, 2, 5, 11, 13, 14] (fun mm vs es => ∃ (i : Nat) (y : DParty) (days : List Bool), vs = [.at (.im 1 (way.map intRow)), .at (.im 2 (l.map DDepot.row)), .at (.bx 100 0 0), .at (.bx 101 0 0), .at (.ow 104 0 1 days.length), .at (.v (.int .i64 i))] /\ es = [.box 0 r.ats, .box 0 (y.own 102 103), .arr 0 4 (y.crew.map DMember.row), .arr 0 1 (y.past.map boolRow), .arr 0 1 (days.map boolRow)] /\ mm = 801 * (way.length - i) + y.food.toNat /\ HomeTo W r l y (way.drop (i + 1)) days /\ (0 <= y.food /\ y.food <= 10000) /\ (i <= way.length /\ y.crew.length <= 1048576 /\ y.past.length <= 10) /\ days.length + mm <= 2000000) (801 * way.length + (pickZ p (foodAt p.at_ l)).food.toNat) ?_ ?_
 ·simp -implicitDefEqProofs only [go_sem]
  refine ⟨0, pickZ p (foodAt p.at_ l), [], ⟨rfl, rfl⟩, ⟨rfl, rfl, rfl, rfl⟩, rfl, hW0, by omega, ⟨Nat.zero_le _, h1, h2⟩, by simp; omega⟩
 rintro q _ _ ⟨i, y, days, rfl, rfl, hq, hW, hy, ⟨hi, hyc, hyp⟩, hd⟩
 simp -implicitDefEqProofs only [go_sem]
 rw [wrap64 (x := (i : Int) + 1) (by omega) (by omega)]
 refine ⟨fun hlt => ?_, fun hlt => ?_⟩
 ·obtain ⟨c, hc⟩ : ∃ c, way[i + 1]? = some c := ⟨way[i + 1]'(by omega), by simp⟩
  have hdrop := drop_get hc
  refine callX [102, 103] (impl_Eat y hyc (by omega) (by unfold I64; omega)) (by simp -implicitDefEqProofs only [go_sem]) ?_
  simp -implicitDefEqProofs only [go_sem]
  rw [hdrop] at hW
  have ec := eat_crew y
  refine ⟨fun he => by rw [home_none hW he]; exact ⟨⟨rfl, rfl, rfl⟩, rfl⟩, fun he => ?_⟩
  have ef := eat_food he
  refine callX [1561] (impl_MayStorm r (eatZ y).past (by rw [ec.2.1]; omega)) (by simp -implicitDefEqProofs only [go_sem]) ?_
  simp -implicitDefEqProofs only [go_sem]
  refine ⟨fun hm => ?_, fun hm => ?_⟩
  ·rw [wrap64 (by omega) (by omega)]
   refine ⟨by omega, fun c2 hc2 => ?_⟩
   rw [show ((i : Int) + 1).toNat = i + 1 by omega] at hc2
   rw [same hc hc2]
   refine ⟨some [], by decide +kernel, ?_⟩
   simp -implicitDefEqProofs only [go_sem]
   refine callXQ [] (impl_FoodAt l c hl) (by simp -implicitDefEqProofs only [go_sem]) ?_
   simp -implicitDefEqProofs only [go_sem]
   refine callXQ [1560, 1561] (impl_PickUp { eatZ y with at_ := c } (foodAt c l) (by rw [show ({ eatZ y with at_ := c } : DParty).crew = (eatZ y).crew from rfl, ec.1]; exact hyc) (by rw [show ({ eatZ y with at_ := c } : DParty).past = (eatZ y).past from rfl, ec.2.1]; omega) (by show _ <= (eatZ y).food /\ (eatZ y).food <= _; omega)) (by simp -implicitDefEqProofs only [go_sem]) ?_
   simp -implicitDefEqProofs only [go_sem]
   refine callX [1977] (impl_AddDay (pickZ { eatZ y with at_ := c } (foodAt c l)).past (decide (mayP r (eatZ y).past)) (by rw [show (pickZ { eatZ y with at_ := c } (foodAt c l)).past = (eatZ y).past from rfl, ec.2.1]; omega)) (by simp -implicitDefEqProofs only [go_sem]) ?_
   simp -implicitDefEqProofs only [go_sem]
   have hdf : decide (mayP r (eatZ y).past) = false := decide_eq_false hm
   rw [hdf]
   have hcz : calmZ l y c = { pickZ { eatZ y with at_ := c } (foodAt c l) with past := addDay (eatZ y).past false } := by rw [calmZ, ec.2.1]
   have hcf := calm_food (l := l) (c := c) he
   have hpk := pick_food (p := { eatZ y with at_ := c }) (n := foodAt c l) (by show _ <= (eatZ y).food /\ (eatZ y).food <= _; omega)
   have hfd : (calmZ l y c).food = (pickZ { eatZ y with at_ := c } (foodAt c l)).food := by rw [hcz]
   refine ⟨by unfold Room; omega, 801 * (way.length - (i + 1)) + (calmZ l y c).food.toNat, by omega, i + 1, calmZ l y c, days ++ [false], ⟨by simp, rfl⟩, ⟨by rw [hcz]; rfl, by rw [hcz], by rw [hcz]; rfl, by simp [boolRow]⟩, rfl, home_calm hW he (by rw [<- ec.2.1]; exact hm), by omega,
    ⟨by omega, by rw [hcz]; show (eatZ y).crew.length <= _; rw [ec.1]; exact hyc, by rw [hcz]; exact addDay_len _ _⟩, by simp only [List.length_append, List.length_cons, List.length_nil]; omega⟩
  ·refine callX [1561] (impl_AddDay (eatZ y).past (decide (mayP r (eatZ y).past)) (by rw [ec.2.1]; omega)) (by simp -implicitDefEqProofs only [go_sem]) ?_
   simp -implicitDefEqProofs only [go_sem]
   have hdf : decide (mayP r (eatZ y).past) = true := decide_eq_true hm
   rw [hdf]
   have hcz : stormZ' y = { eatZ y with past := addDay (eatZ y).past true } := by rw [stormZ', ec.2.1]
   have hcf := storm_food he
   have hfd : (stormZ' y).food = (eatZ y).food := by rw [hcz]
   refine ⟨by unfold Room; omega, 801 * (way.length - i) + (stormZ' y).food.toNat, by omega, i, stormZ' y, days ++ [true], ⟨by simp, rfl⟩, ⟨by rw [hcz], by rw [hcz], by rw [hcz], by simp [boolRow]⟩, rfl, by rw [hdrop]; exact home_storm hW he (by rw [<- ec.2.1]; exact hm), by omega,
    ⟨by omega, by rw [hcz]; show (eatZ y).crew.length <= _; rw [ec.1]; exact hyc, by rw [hcz]; exact addDay_len _ _⟩, by simp only [List.length_append, List.length_cons, List.length_nil]; omega⟩
 ·rw [List.drop_eq_nil_of_le (by omega)] at hW
  rw [home_end hW]; exact ⟨⟨rfl, rfl, rfl⟩, rfl⟩
noncomputable def homeOf (x : DLand) (base : Int) (r : DRule) (l : List DDepot) (p : DParty) : Int × List Bool × Bool := homeW r l (pickZ p (foodAt p.at_ l)) ((wayZ x p.at_ base).drop 1)
def validP (x : DLand) (r : DRule) (l : List DDepot) (p : DParty) : Prop := r.Ok /\ DepotsP x l /\ PartyP x p
noncomputable instance (x : DLand) (r : DRule) (l : List DDepot) (p : DParty) : Decidable (validP x r l p) := Classical.propDecidable _
def backP (x : DLand) (base : Int) (r : DRule) (l : List DDepot) (p : DParty) : Prop := (validP x r l p /\ wayZ x p.at_ base ≠ []) /\ (homeOf x base r l p).2.2 = true
noncomputable instance (x : DLand) (base : Int) (r : DRule) (l : List DDepot) (p : DParty) : Decidable (backP x base r l p) := Classical.propDecidable _
noncomputable def leftZ (x : DLand) (base : Int) (r : DRule) (l : List DDepot) (p : DParty) : Int := if backP x base r l p then (homeOf x base r l p).1 else -1
theorem wayZ_len (x : DLand) (a b : Int) : (wayZ x a b).length <= 66 := by
 unfold wayZ
 split
 ·simp
 ·rename_i h
  rw [wayF_len]
  by_cases hop : x.Open a /\ x.Open b
  ·have := steps_64 hop.1.1.1 [b] a hop.1.1; omega
  ·rw [daysZ, if_neg hop] at h; omega
theorem leftZ_pos {x : DLand} {base : Int} {r : DRule} {l : List DDepot} {p : DParty} : 0 <= leftZ x base r l p ↔ backP x base r l p := by
 unfold leftZ
 split
 ·rename_i h
  have hf := h.1.1.2.2.2.2.1
  have hl := wayZ_len x p.at_ base
  have hk := pick_food (n := foodAt p.at_ l) hf
  have := (homeW_len (r := r) (l := l) (p := pickZ p (foodAt p.at_ l)) (rest := (wayZ x p.at_ base).drop 1) (by omega) (by simp; omega)).2
  exact ⟨fun _ => h, fun _ => this⟩
 ·rename_i h; exact ⟨fun h2 => by omega, fun h2 => absurd h2 h⟩
theorem impl_home (x : DLand) (base : Int) (r : DRule) (l : List DDepot) (p : DParty) (hx : x.cells.length <= 1048576) (hl : l.length <= 1048576) (hc : p.crew.length <= 1048576) :
  SC Tryz.prog 182 [.ag x.ats, .at (.v (.int .i64 base)), .ag r.ats, .at (.im 2 (l.map DDepot.row)), .ag p.ats] [] (.at (.fr 1 ((if validP x r l p then wayZ x p.at_ base else []).map intRow))) [] := by
 refine SC.of_W mixed Tryz.func182 (by kernel_rfl) rfl Tryz.results182 _ Tryz.ntmps182 (by simp) ?_
 simp -implicitDefEqProofs only [go_sem]
 refine callX [] (impl_IsRule r) (by simp -implicitDefEqProofs only [go_sem]) ?_
 simp -implicitDefEqProofs only [go_sem]
 refine ⟨fun h1 => ?_, fun h1 => by rw [if_neg (fun h => h1 h.1)]; exact ⟨rfl, rfl⟩⟩
 refine callX [] (impl_AreDepots x l hx hl) (by simp -implicitDefEqProofs only [go_sem]) ?_
 simp -implicitDefEqProofs only [go_sem]
 refine ⟨fun h2 => ?_, fun h2 => by rw [if_neg (fun h => h2 h.2.1)]; exact ⟨rfl, rfl⟩⟩
 refine callX [] (impl_IsParty x p hx hc) (by simp -implicitDefEqProofs only [go_sem]) ?_
 simp -implicitDefEqProofs only [go_sem]
 refine ⟨fun h3 => by rw [if_neg (fun h => h3 h.2.2)]; exact ⟨rfl, rfl⟩, fun h3 => ?_⟩
 refine callX [] (impl_WayTo x p.at_ base hx) (by simp -implicitDefEqProofs only [go_sem]) ?_
 simp -implicitDefEqProofs only [go_sem]
 rw [if_pos ⟨h1, h2, h3⟩]; exact ⟨rfl, rfl⟩
theorem impl_LeftAtHome (x : DLand) (base : Int) (r : DRule) (l : List DDepot) (p : DParty) (hx : x.cells.length <= 1048576) (hl : l.length <= 1048576) (hc : p.crew.length <= 1048576) :
  SC Tryz.prog 89 [.ag x.ats, .at (.v (.int .i64 base)), .ag r.ats, .at (.im 2 (l.map DDepot.row)), .ag p.ats] [] (.at (.v (.int .i64 (leftZ x base r l p)))) [] := by
 refine SC.of_V mixed Tryz.func89 (by kernel_rfl) rfl Tryz.results89 _ Tryz.ntmps89 (by simp) ?_
 simp -implicitDefEqProofs only [go_sem]
 refine callX [] (impl_home x base r l p hx hl hc) (by simp -implicitDefEqProofs only [go_sem]) ?_
 simp -implicitDefEqProofs only [go_sem]
 have hwl := wayZ_len x p.at_ base
 by_cases hv : validP x r l p
 ·rw [if_pos hv]
  refine ⟨fun h0 => ?_, fun h0 => ?_⟩
  ·rw [leftZ, if_neg fun h => h.1.2 (List.eq_nil_of_length_eq_zero (by omega))]
  ·have hf := hv.2.2.2.2.1
   refine callX [1320] (impl_worst (wayZ x p.at_ base) r l p hwl hc hv.2.2.2.2.2 hf hl) (by simp -implicitDefEqProofs only [go_sem]) ?_
   simp -implicitDefEqProofs only [go_sem]
   have hne : wayZ x p.at_ base ≠ [] := fun h => h0 (by rw [h]; rfl)
   refine ⟨fun h1 => ?_, fun h1 => ?_⟩
   ·rw [leftZ, if_neg fun h => by have := h.2; unfold homeOf at this; rw [this] at h1; cases h1]
   ·rw [leftZ, if_pos ⟨⟨hv, hne⟩, by unfold homeOf; simpa using h1⟩]; rfl
 ·rw [if_neg hv]
  refine ⟨fun h0 => ?_, fun h0 => absurd rfl h0⟩
  rw [leftZ, if_neg fun h => hv h.1.1]
theorem impl_CanReturn (x : DLand) (base : Int) (r : DRule) (l : List DDepot) (p : DParty) (hx : x.cells.length <= 1048576) (hl : l.length <= 1048576) (hc : p.crew.length <= 1048576) :
  SC Tryz.prog 177 [.ag x.ats, .at (.v (.int .i64 base)), .ag r.ats, .at (.im 2 (l.map DDepot.row)), .ag p.ats] [] (.at (.v (.bool (decide (backP x base r l p))))) [] := by
 refine SC.of_V mixed Tryz.func177 (by kernel_rfl) rfl Tryz.results177 _ Tryz.ntmps177 (by simp) ?_
 simp -implicitDefEqProofs only [go_sem]
 refine callX [] (impl_LeftAtHome x base r l p hx hl hc) (by simp -implicitDefEqProofs only [go_sem]) ?_
 simp -implicitDefEqProofs only [go_sem]
 exact decide_eq_decide.2 leftZ_pos
theorem spec_l10Worst (x : DLand) (base : Int) (r : DRule) (l : List DDepot) (p : DParty) (hx : x.cells.length <= 1048576) (hl : l.length <= 1048576) (hc : p.crew.length <= 1048576) :
  SC Tryz.prog 230 [.ag x.ats, .at (.v (.int .i64 base)), .ag r.ats, .at (.im 2 (l.map DDepot.row)), .ag p.ats] [] (.at (.v (.int .i64 (leftZ x base r l p)))) [] := by
 refine SC.of_V mixed Tryz.func230 (by kernel_rfl) rfl Tryz.results230 _ Tryz.ntmps230 (by simp) ?_
 simp -implicitDefEqProofs only [go_sem]
 refine callX [] (spec_WayTo x p.at_ base hx) (by simp -implicitDefEqProofs only [go_sem]) ?_
 simp -implicitDefEqProofs only [go_sem]
 have hwl := wayZ_len x p.at_ base
 refine callX [] (spec_IsRule r) (by simp -implicitDefEqProofs only [go_sem]) ?_
 simp -implicitDefEqProofs only [go_sem]
 refine ⟨fun h1 => ?_, fun h1 => ?_⟩
 ·refine callX [] (spec_AreDepots x l hx hl) (by simp -implicitDefEqProofs only [go_sem]) ?_
  simp -implicitDefEqProofs only [go_sem]
  refine ⟨fun h2 => ?_, fun h2 => by rw [leftZ, if_neg fun h => h2 h.1.1.2.1]⟩
  refine callX [] (spec_IsParty x p hx hc) (by simp -implicitDefEqProofs only [go_sem]) ?_
  simp -implicitDefEqProofs only [go_sem]
  refine ⟨fun h3 => ?_, fun h3 => by rw [leftZ, if_neg fun h => h3 h.1.1.2.2]⟩
  refine ⟨fun h4 => ?_, fun h4 => ?_⟩
  ·rw [leftZ, if_neg fun h => h.1.2 (List.eq_nil_of_length_eq_zero (by omega))]
  have hv : validP x r l p := ⟨h1, h2, h3⟩
  have hne : wayZ x p.at_ base ≠ [] := fun h => h4 (by rw [h]; rfl)
  have hf := h3.2.2.1
  have h10 := h3.2.2.2
  refine ⟨some [], by decide +kernel, ?_⟩
  simp -implicitDefEqProofs only [go_sem]
  refine callXQ [] (spec_FoodAt l p.at_ hl) (by simp -implicitDefEqProofs only [go_sem]) ?_
  simp -implicitDefEqProofs only [go_sem]
  refine callXQ [] (spec_PickUp p (foodAt p.at_ l) hc (by omega) (by omega)) (by simp -implicitDefEqProofs only [go_sem]) ?_
  simp -implicitDefEqProofs only [go_sem]
  have hpf := pick_food (n := foodAt p.at_ l) hf
  have hW0 : HomeTo (homeOf x base r l p) r l (pickZ p (foodAt p.at_ l)) ((wayZ x p.at_ base).drop 1) [] := by simp [HomeTo, preW, homeOf]
  have hfin : ∀ (W : Int × List Bool × Bool), W = homeOf x base r l p -> leftZ x base r l p = if W.2.2 = true then W.1 else -1 := by
   intro W hW
   subst hW
   unfold leftZ
   by_cases hk : (homeOf x base r l p).2.2 = true
   ·rw [if_pos hk, if_pos ⟨⟨hv, hne⟩, hk⟩]
   ·rw [if_neg hk, if_neg fun h => hk h.2]
  rw [hfin _ rfl]
  clear hfin
  generalize homeOf x base r l p = W at hW0 ⊢
  refine T.loopW mixed [3, 7, 9, 11, 12] (fun mm vs es => ∃ (i : Nat) (y : DParty) (days : List Bool), vs = [.at (.im 2 (l.map DDepot.row)), .at (.bx 100 0 0), .at (.bx 101 0 0), .at (.ow 104 0 1 ((wayZ x p.at_ base).length)), .at (.v (.int .i64 (i + 1)))] /\ es = [.box 0 r.ats, .box 0 (y.own 102 103), .arr 0 4 (y.crew.map DMember.row), .arr 0 1 (y.past.map boolRow), .arr 0 1 ((wayZ x p.at_ base).map intRow)] /\ mm = 801 * ((wayZ x p.at_ base).length - i) + y.food.toNat /\ HomeTo W r l y ((wayZ x p.at_ base).drop (i + 1)) days /\ (0 <= y.food /\ y.food <= 10000) /\ (i <= (wayZ x p.at_ base).length /\ y.crew.length <= 1048576 /\ y.past.length <= 10)) (801 * (wayZ x p.at_ base).length + (pickZ p (foodAt p.at_ l)).food.toNat) ?_ ?_
  ·simp -implicitDefEqProofs only [go_sem]
   exact ⟨0, pickZ p (foodAt p.at_ l), [], rfl, ⟨rfl, rfl, rfl⟩, rfl, hW0, by omega, Nat.zero_le _, hc, by show p.past.length <= _; omega⟩
  rintro q _ _ ⟨i, y, days, rfl, rfl, hq, hW, hy, ⟨hi, hyc, hyp⟩⟩
  simp -implicitDefEqProofs only [go_sem]
  refine ⟨fun hlt => ?_, fun hlt => ?_⟩
  ·obtain ⟨c, hcc⟩ : ∃ c, (wayZ x p.at_ base)[i + 1]? = some c := ⟨(wayZ x p.at_ base)[i + 1]'(by omega), by simp⟩
   have hdrop := drop_get hcc
   refine callX [102, 103] (spec_Eat y hyc (by omega) (by unfold I64; omega)) (by simp -implicitDefEqProofs only [go_sem]) ?_
   simp -implicitDefEqProofs only [go_sem]
   rw [hdrop] at hW
   have ec := eat_crew y
   refine ⟨fun he => by rw [home_none hW he]; rfl, fun he => ?_⟩
   have ef := eat_food he
   refine callX [103] (spec_MayStorm r y.past (by omega)) (by simp -implicitDefEqProofs only [go_sem]) ?_
   simp -implicitDefEqProofs only [go_sem]
   refine callX [103] (spec_AddDay y.past (decide (mayP r y.past)) (by omega)) (by simp -implicitDefEqProofs only [go_sem]) ?_
   simp -implicitDefEqProofs only [go_sem]
   refine ⟨fun hm => ?_, fun hm => ?_⟩
   ·have hdf : decide (mayP r y.past) = false := decide_eq_false hm
    rw [hdf]
    refine ⟨by omega, by omega, fun c2 hc2 => ?_⟩
    rw [show ((i : Int) + 1).toNat = i + 1 by omega] at hc2
    rw [same hcc hc2]
    refine ⟨some [], by decide +kernel, ?_⟩
    simp -implicitDefEqProofs only [go_sem]
    refine callXQ [] (spec_FoodAt l c hl) (by simp -implicitDefEqProofs only [go_sem]) ?_
    simp -implicitDefEqProofs only [go_sem]
    refine callXQ [1896, 2088] (spec_PickUp { eatZ y with at_ := c, past := addDay y.past false } (foodAt c l) (by show (eatZ y).crew.length <= _; rw [ec.1]; exact hyc) (by have := addDay_len y.past false; show (addDay y.past false).length <= _; omega) (by show _ <= (eatZ y).food /\ (eatZ y).food <= _; omega)) (by simp -implicitDefEqProofs only [go_sem]) ?_
    simp -implicitDefEqProofs only [go_sem]
    have hcz : calmZ l y c = pickZ { eatZ y with at_ := c, past := addDay y.past false } (foodAt c l) := rfl
    have hcf := calm_food (l := l) (c := c) he
    have hpk := pick_food (p := { eatZ y with at_ := c, past := addDay y.past false }) (n := foodAt c l) (by show _ <= (eatZ y).food /\ (eatZ y).food <= _; omega)
    rw [<- hcz] at hpk ⊢
    refine ⟨801 * ((wayZ x p.at_ base).length - (i + 1)) + (calmZ l y c).food.toNat, by omega, i + 1, calmZ l y c, days ++ [false], by rw [wrap64 (by omega) (by omega)]; rfl, ⟨rfl, rfl, rfl⟩, rfl, home_calm hW he hm, by omega,
     by omega, by show (eatZ y).crew.length <= _; rw [ec.1]; exact hyc, addDay_len _ _⟩
   ·have hdf : decide (mayP r y.past) = true := decide_eq_true hm
    rw [hdf]
    have hcf := storm_food he
    have hfd : (stormZ' y).food = (eatZ y).food := rfl
    refine ⟨801 * ((wayZ x p.at_ base).length - i) + (stormZ' y).food.toNat, by omega, i, stormZ' y, days ++ [true], rfl, ⟨rfl, rfl, rfl⟩, rfl, by rw [hdrop]; exact home_storm hW he hm, by omega,
     by omega, by show (eatZ y).crew.length <= _; rw [ec.1]; exact hyc, addDay_len _ _⟩
  ·rw [List.drop_eq_nil_of_le (by omega)] at hW
   rw [home_end hW]; rfl
 ·rw [leftZ, if_neg fun h => h1 h.1.1.1]
theorem spec_CanReturn (x : DLand) (base : Int) (r : DRule) (l : List DDepot) (p : DParty) (hx : x.cells.length <= 1048576) (hl : l.length <= 1048576) (hc : p.crew.length <= 1048576) :
  SC Tryz.prog 226 [.ag x.ats, .at (.v (.int .i64 base)), .ag r.ats, .at (.im 2 (l.map DDepot.row)), .ag p.ats] [] (.at (.v (.bool (decide (backP x base r l p))))) [] := by
 refine SC.of_V mixed Tryz.func226 (by kernel_rfl) rfl Tryz.results226 _ Tryz.ntmps226 (by simp) ?_
 simp -implicitDefEqProofs only [go_sem]
 refine callX [] (spec_l10Worst x base r l p hx hl hc) (by simp -implicitDefEqProofs only [go_sem]) ?_
 simp -implicitDefEqProofs only [go_sem]
 exact decide_eq_decide.2 leftZ_pos
end Go.Abs
