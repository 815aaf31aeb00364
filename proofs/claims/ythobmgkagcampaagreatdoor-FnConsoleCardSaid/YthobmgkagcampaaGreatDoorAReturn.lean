/- Days on the way home. -/
import Derived.Test.YthobmgkagcampaaGreatDoorAGo
namespace Go.Abs
open Go.RowKit Go.Proofs
set_option linter.all false
set_option maxRecDepth 100000
set_option maxHeartbeats 4000000
def retP (x : DLand) (base : Int) (r : DRule) (l : List DDepot) (p : DParty) (s : Bool) : Prop := backP x base r l p /\ p.at_ ≠ base /\ (s = true -> mayP r p.past)
noncomputable instance (x : DLand) (base : Int) (r : DRule) (l : List DDepot) (p : DParty) (s : Bool) : Decidable (retP x base r l p s) := Classical.propDecidable _
noncomputable def homeCell (x : DLand) (base : Int) (p : DParty) : Int := (wayZ x p.at_ base).getD 1 p.at_
noncomputable def retZ (x : DLand) (base : Int) (r : DRule) (l : List DDepot) (p : DParty) (s : Bool) : DParty :=
 if retP x base r l p s then dayZ (pickZ p (foodAt p.at_ l)) (if s = true then p.at_ else homeCell x base p) s else p
noncomputable def retL (x : DLand) (base : Int) (r : DRule) (l : List DDepot) (p : DParty) (s : Bool) : List DDepot :=
 if retP x base r l p s then (if 0 < pickN p (foodAt p.at_ l) then takeL p.at_ (pickN p (foodAt p.at_ l)) l else l) else l
theorem retL_len (x : DLand) (base : Int) (r : DRule) (l : List DDepot) (p : DParty) (s : Bool) : (retL x base r l p s).length <= l.length := by
 by_cases h : retP x base r l p s
 ·rw [retL, if_pos h]
  by_cases h2 : 0 < pickN p (foodAt p.at_ l)
  ·rw [if_pos h2]; exact takeL_len _ _ _
  ·rw [if_neg h2]; exact Nat.le_refl _
 ·rw [retL, if_neg h]; exact Nat.le_refl _
theorem retZ_crew {x : DLand} {base : Int} {r : DRule} {l : List DDepot} {p : DParty} {s : Bool} : (retZ x base r l p s).crew = p.crew := by
 by_cases h : retP x base r l p s
 ·rw [retZ, if_pos h]; exact dayZ_crew _ _ _
 ·rw [retZ, if_neg h]
theorem back_way {x : DLand} {base : Int} {r : DRule} {l : List DDepot} {p : DParty} (h : backP x base r l p) (hb : p.at_ ≠ base) : (∃ c rest, (wayZ x p.at_ base).drop 1 = c :: rest) /\ eatP (pickZ p (foodAt p.at_ l)) := by
 have hne := h.1.2
 have hd : ¬ daysZ x p.at_ base < 0 := fun hd => hne (by rw [wayZ, if_pos hd])
 have hop : x.Open p.at_ /\ x.Open base := by
  refine Decidable.byContradiction fun hn => hd ?_
  rw [daysZ, if_neg hn]; decide
 have h0 : 0 <= dist (stepsZ x [p.at_]) base := by rw [daysZ, if_pos hop] at hd; omega
 have hrev := steps_rev hop.1 hop.2 h0
 have hpos : dist (stepsZ x [base]) p.at_ ≠ 0 := fun h => hb (steps_zero hop.2 hop.1 h)
 have hw : ∃ c rest, (wayZ x p.at_ base).drop 1 = c :: rest := by
  rw [wayZ, if_neg hd]
  obtain ⟨k, hk⟩ : ∃ k, (dist (stepsZ x [base]) p.at_).toNat = k + 1 := ⟨(dist (stepsZ x [base]) p.at_).toNat - 1, by omega⟩
  rw [hk, wayF]
  cases k with
  | zero => exact ⟨_, _, rfl⟩
  | succ k => exact ⟨_, _, rfl⟩
 refine ⟨hw, Decidable.byContradiction fun he => ?_⟩
 obtain ⟨c, rest, hcr⟩ := hw
 have := h.2
 rw [homeOf, hcr, homeW_none he] at this
 cases this
theorem homeCell_get {x : DLand} {base : Int} {p : DParty} {c : Int} (h : (wayZ x p.at_ base)[1]? = some c) : c = homeCell x base p := by
 rw [homeCell, List.getD_eq_getElem?_getD, h]; rfl
theorem pick_take {x : DLand} {l : List DDepot} {p : DParty} (h : DepotsP x l) (hp : 0 < pickN p (foodAt p.at_ l)) : takeP x l p.at_ (pickN p (foodAt p.at_ l)) := by
 refine ⟨h, hp, ?_⟩
 have := roomZ_bnd p
 have := foodAt_bnd h.food p.at_
 unfold pickN; omega
theorem spec_ReturnStep (x : DLand) (base : Int) (r : DRule) (l : List DDepot) (p : DParty) (s : Bool) (hx : x.cells.length <= 1048576) (hl : l.length <= 1048576) (hc : p.crew.length <= 1048576) (hp : p.past.length <= 1048576) :
  SC Tryz.prog 166 [.ag x.ats, .at (.v (.int .i64 base)), .ag r.ats, .at (.im 2 (l.map DDepot.row)), .ag p.ats, .at (.v (.bool s))] [] (.tp [.ag (retZ x base r l p s).frs, .at (.fr 2 ((retL x base r l p s).map DDepot.row)), .at (.v (.bool (decide (retP x base r l p s))))]) [] := by
 cases s
 ·refine SC.of_W mixed Tryz.func166 (by kernel_rfl) rfl Tryz.results166 _ Tryz.ntmps166 (by simp) ?_
  simp -implicitDefEqProofs only [go_sem]
  refine ⟨room_s hl (by decide), ?_⟩
  refine callX [] (spec_CanReturn x base r l p hx hl hc) (by simp -implicitDefEqProofs only [go_sem]) ?_
  simp -implicitDefEqProofs only [go_sem]
  refine ⟨fun h1 => ?_, fun h1 => ?_⟩
  ·refine ⟨fun h2 => ?_, fun h2 => ?_⟩
   ·have e : retP x base r l p false := ⟨h1, h2, fun h => by cases h⟩
    have hf := h1.food
    have h10 := h1.past
    have hD := h1.1.1.2.1
    obtain ⟨⟨c, rest, hcr⟩, hE⟩ := back_way h1 h2
    have hpf := pick_food (n := foodAt p.at_ l) hf
    have hwl := wayZ_len x p.at_ base
    have hc1 : (wayZ x p.at_ base)[1]? = some c := by have h := congrArg (·[0]?) hcr; simpa using h
    have hc2 := homeCell_get hc1
    have hcl := (List.getElem?_eq_some_iff.1 hc1).1
    refine ⟨some [], by decide +kernel, ?_⟩
    simp -implicitDefEqProofs only [go_sem]
    refine callXQ [] (spec_FoodAt l p.at_ hl) (by simp -implicitDefEqProofs only [go_sem]) ?_
    simp -implicitDefEqProofs only [go_sem]
    refine callXQ [] (spec_PickUp p (foodAt p.at_ l) hc (by omega) (by omega)) (by simp -implicitDefEqProofs only [go_sem]) ?_
    simp -implicitDefEqProofs only [go_sem]
    refine ⟨fun h4 => ?_, fun h4 => ?_⟩
    ·refine callX [] (spec_Take x l p.at_ (pickN p (foodAt p.at_ l)) hx hl) (by simp -implicitDefEqProofs only [go_sem]) ?_
     simp -implicitDefEqProofs only [go_sem]
     have et : takeZ x l p.at_ (pickN p (foodAt p.at_ l)) = takeL p.at_ (pickN p (foodAt p.at_ l)) l := if_pos (pick_take hD h4)
     have el : retL x base r l p false = takeL p.at_ (pickN p (foodAt p.at_ l)) l := by rw [retL, if_pos e, if_pos h4]
     have ez : retZ x base r l p false = dayZ (pickZ p (foodAt p.at_ l)) (homeCell x base p) false := by rw [retZ, if_pos e]; rfl
     refine callX [1896, 1897] (spec_Eat (pickZ p (foodAt p.at_ l)) hc (by show p.past.length <= _; omega) (by unfold I64; omega)) (by simp -implicitDefEqProofs only [go_sem]) ?_
     simp -implicitDefEqProofs only [go_sem]
     refine ⟨fun h5 => absurd hE h5, fun h5 => ?_⟩
     refine callX [] (spec_AddDay p.past false (by omega)) (by simp -implicitDefEqProofs only [go_sem]) ?_
     simp -implicitDefEqProofs only [go_sem]
     refine callX [] (spec_WayTo x p.at_ base hx) (by simp -implicitDefEqProofs only [go_sem]) ?_
     simp -implicitDefEqProofs only [go_sem]
     refine ⟨by omega, by omega, fun c3 hc3 => ?_⟩
     rw [same hc1 hc3, hc2]
     rw [el, ez, et]
     exact ⟨⟨⟨rfl, rfl, rfl, rfl⟩, rfl, dec_t e⟩, rfl, rfl, rfl⟩
    ·have el : retL x base r l p false = l := by rw [retL, if_pos e, if_neg h4]
     have ez : retZ x base r l p false = dayZ (pickZ p (foodAt p.at_ l)) (homeCell x base p) false := by rw [retZ, if_pos e]; rfl
     refine callX [1896, 1897] (spec_Eat (pickZ p (foodAt p.at_ l)) hc (by show p.past.length <= _; omega) (by unfold I64; omega)) (by simp -implicitDefEqProofs only [go_sem]) ?_
     simp -implicitDefEqProofs only [go_sem]
     refine ⟨fun h5 => absurd hE h5, fun h5 => ?_⟩
     refine callX [] (spec_AddDay p.past false (by omega)) (by simp -implicitDefEqProofs only [go_sem]) ?_
     simp -implicitDefEqProofs only [go_sem]
     refine callX [] (spec_WayTo x p.at_ base hx) (by simp -implicitDefEqProofs only [go_sem]) ?_
     simp -implicitDefEqProofs only [go_sem]
     refine ⟨by omega, by omega, fun c3 hc3 => ?_⟩
     rw [same hc1 hc3, hc2]
     rw [el, ez]
     exact ⟨⟨⟨rfl, rfl, rfl, rfl⟩, rfl, dec_t e⟩, rfl, rfl, rfl⟩
   ·refine callX [] (spec_l9Copy p hc (by omega)) (by simp -implicitDefEqProofs only [go_sem]) ?_
    simp -implicitDefEqProofs only [go_sem]
    have e : ¬ retP x base r l p false := fun h => h.2.1 h2
    rw [retZ, retL, if_neg e, if_neg e]; exact ⟨⟨⟨rfl, rfl, rfl, rfl⟩, rfl, dec_f e⟩, rfl, rfl, rfl⟩
  ·refine callX [] (spec_l9Copy p hc (by omega)) (by simp -implicitDefEqProofs only [go_sem]) ?_
   simp -implicitDefEqProofs only [go_sem]
   have e : ¬ retP x base r l p false := fun h => h1 h.1
   rw [retZ, retL, if_neg e, if_neg e]; exact ⟨⟨⟨rfl, rfl, rfl, rfl⟩, rfl, dec_f e⟩, rfl, rfl, rfl⟩
 ·refine SC.of_W mixed Tryz.func166 (by kernel_rfl) rfl Tryz.results166 _ Tryz.ntmps166 (by simp) ?_
  simp -implicitDefEqProofs only [go_sem]
  refine ⟨room_s hl (by decide), ?_⟩
  refine callX [] (spec_CanReturn x base r l p hx hl hc) (by simp -implicitDefEqProofs only [go_sem]) ?_
  simp -implicitDefEqProofs only [go_sem]
  refine ⟨fun h1 => ?_, fun h1 => ?_⟩
  ·refine ⟨fun h2 => ?_, fun h2 => ?_⟩
   ·refine callX [] (spec_MayStorm r p.past (by omega)) (by simp -implicitDefEqProofs only [go_sem]) ?_
    simp -implicitDefEqProofs only [go_sem]
    refine ⟨fun h3 => ?_, fun h3 => ?_⟩
    ·refine callX [] (spec_l9Copy p hc (by omega)) (by simp -implicitDefEqProofs only [go_sem]) ?_
     simp -implicitDefEqProofs only [go_sem]
     have e : ¬ retP x base r l p true := fun h => h3 (h.2.2 rfl)
     rw [retZ, retL, if_neg e, if_neg e]; exact ⟨⟨⟨rfl, rfl, rfl, rfl⟩, rfl, dec_f e⟩, rfl, rfl, rfl⟩
    ·have e : retP x base r l p true := ⟨h1, h2, fun _ => h3⟩
     have hf := h1.food
     have h10 := h1.past
     have hD := h1.1.1.2.1
     obtain ⟨⟨c, rest, hcr⟩, hE⟩ := back_way h1 h2
     have hpf := pick_food (n := foodAt p.at_ l) hf
     have hwl := wayZ_len x p.at_ base
     have hc1 : (wayZ x p.at_ base)[1]? = some c := by have h := congrArg (·[0]?) hcr; simpa using h
     have hc2 := homeCell_get hc1
     have hcl := (List.getElem?_eq_some_iff.1 hc1).1
     refine ⟨some [], by decide +kernel, ?_⟩
     simp -implicitDefEqProofs only [go_sem]
     refine callXQ [] (spec_FoodAt l p.at_ hl) (by simp -implicitDefEqProofs only [go_sem]) ?_
     simp -implicitDefEqProofs only [go_sem]
     refine callXQ [] (spec_PickUp p (foodAt p.at_ l) hc (by omega) (by omega)) (by simp -implicitDefEqProofs only [go_sem]) ?_
     simp -implicitDefEqProofs only [go_sem]
     refine ⟨fun h4 => ?_, fun h4 => ?_⟩
     ·refine callX [] (spec_Take x l p.at_ (pickN p (foodAt p.at_ l)) hx hl) (by simp -implicitDefEqProofs only [go_sem]) ?_
      simp -implicitDefEqProofs only [go_sem]
      have et : takeZ x l p.at_ (pickN p (foodAt p.at_ l)) = takeL p.at_ (pickN p (foodAt p.at_ l)) l := if_pos (pick_take hD h4)
      have el : retL x base r l p true = takeL p.at_ (pickN p (foodAt p.at_ l)) l := by rw [retL, if_pos e, if_pos h4]
      have ez : retZ x base r l p true = dayZ (pickZ p (foodAt p.at_ l)) p.at_ true := by rw [retZ, if_pos e]; rfl
      refine callX [1896, 1897] (spec_Eat (pickZ p (foodAt p.at_ l)) hc (by show p.past.length <= _; omega) (by unfold I64; omega)) (by simp -implicitDefEqProofs only [go_sem]) ?_
      simp -implicitDefEqProofs only [go_sem]
      refine ⟨fun h5 => absurd hE h5, fun h5 => ?_⟩
      refine callX [] (spec_AddDay p.past true (by omega)) (by simp -implicitDefEqProofs only [go_sem]) ?_
      simp -implicitDefEqProofs only [go_sem]
      rw [el, ez, et]
      exact ⟨⟨⟨(eat_crew _).2.2, rfl, rfl, rfl⟩, rfl, dec_t e⟩, rfl, rfl, rfl⟩
     ·have el : retL x base r l p true = l := by rw [retL, if_pos e, if_neg h4]
      have ez : retZ x base r l p true = dayZ (pickZ p (foodAt p.at_ l)) p.at_ true := by rw [retZ, if_pos e]; rfl
      refine callX [1896, 1897] (spec_Eat (pickZ p (foodAt p.at_ l)) hc (by show p.past.length <= _; omega) (by unfold I64; omega)) (by simp -implicitDefEqProofs only [go_sem]) ?_
      simp -implicitDefEqProofs only [go_sem]
      refine ⟨fun h5 => absurd hE h5, fun h5 => ?_⟩
      refine callX [] (spec_AddDay p.past true (by omega)) (by simp -implicitDefEqProofs only [go_sem]) ?_
      simp -implicitDefEqProofs only [go_sem]
      rw [el, ez]
      exact ⟨⟨⟨(eat_crew _).2.2, rfl, rfl, rfl⟩, rfl, dec_t e⟩, rfl, rfl, rfl⟩
   ·refine callX [] (spec_l9Copy p hc (by omega)) (by simp -implicitDefEqProofs only [go_sem]) ?_
    simp -implicitDefEqProofs only [go_sem]
    have e : ¬ retP x base r l p true := fun h => h.2.1 h2
    rw [retZ, retL, if_neg e, if_neg e]; exact ⟨⟨⟨rfl, rfl, rfl, rfl⟩, rfl, dec_f e⟩, rfl, rfl, rfl⟩
  ·refine callX [] (spec_l9Copy p hc (by omega)) (by simp -implicitDefEqProofs only [go_sem]) ?_
   simp -implicitDefEqProofs only [go_sem]
   have e : ¬ retP x base r l p true := fun h => h1 h.1
   rw [retZ, retL, if_neg e, if_neg e]; exact ⟨⟨⟨rfl, rfl, rfl, rfl⟩, rfl, dec_f e⟩, rfl, rfl, rfl⟩
theorem impl_ReturnStep (x : DLand) (base : Int) (r : DRule) (l : List DDepot) (p : DParty) (s : Bool) (hx : x.cells.length <= 1048576) (hl : l.length <= 1048576) (hc : p.crew.length <= 1048576) (hp : p.past.length <= 1048576) :
  SC Tryz.prog 209 [.ag x.ats, .at (.v (.int .i64 base)), .ag r.ats, .at (.im 2 (l.map DDepot.row)), .ag p.ats, .at (.v (.bool s))] [] (.tp [.ag (retZ x base r l p s).frs, .at (.fr 2 ((retL x base r l p s).map DDepot.row)), .at (.v (.bool (decide (retP x base r l p s))))]) [] := by
 cases s
 ·refine SC.of_W mixed Tryz.func209 (by kernel_rfl) rfl Tryz.results209 _ Tryz.ntmps209 (by simp) ?_
  simp -implicitDefEqProofs only [go_sem]
  refine callX [] (impl_CanReturn x base r l p hx hl hc) (by simp -implicitDefEqProofs only [go_sem]) ?_
  simp -implicitDefEqProofs only [go_sem]
  refine ⟨fun h1 => ?_, fun h1 => ?_⟩
  ·refine ⟨fun h2 => ?_, fun h2 => ?_⟩
   ·have e : retP x base r l p false := ⟨h1, h2, fun h => by cases h⟩
    have hf := h1.food
    have h10 := h1.past
    have hD := h1.1.1.2.1
    obtain ⟨⟨c, rest, hcr⟩, hE⟩ := back_way h1 h2
    have hpf := pick_food (n := foodAt p.at_ l) hf
    have hwl := wayZ_len x p.at_ base
    have hc1 : (wayZ x p.at_ base)[1]? = some c := by have h := congrArg (·[0]?) hcr; simpa using h
    have hc2 := homeCell_get hc1
    have hcl := (List.getElem?_eq_some_iff.1 hc1).1
    refine ⟨some [], by decide +kernel, ?_⟩
    simp -implicitDefEqProofs only [go_sem]
    refine callXQ [] (impl_FoodAt l p.at_ hl) (by simp -implicitDefEqProofs only [go_sem]) ?_
    simp -implicitDefEqProofs only [go_sem]
    refine callXQ [] (impl_PickUp p (foodAt p.at_ l) hc (by omega) (by omega)) (by simp -implicitDefEqProofs only [go_sem]) ?_
    simp -implicitDefEqProofs only [go_sem]
    refine callX [] (impl_copyDepots l hl) (by simp -implicitDefEqProofs only [go_sem]) ?_
    simp -implicitDefEqProofs only [go_sem]
    refine ⟨fun h4 => ?_, fun h4 => ?_⟩
    ·refine callX [] (impl_Take x l p.at_ (pickN p (foodAt p.at_ l)) hx hl) (by simp -implicitDefEqProofs only [go_sem]) ?_
     simp -implicitDefEqProofs only [go_sem]
     have et : takeZ x l p.at_ (pickN p (foodAt p.at_ l)) = takeL p.at_ (pickN p (foodAt p.at_ l)) l := if_pos (pick_take hD h4)
     have el : retL x base r l p false = takeL p.at_ (pickN p (foodAt p.at_ l)) l := by rw [retL, if_pos e, if_pos h4]
     have ez : retZ x base r l p false = dayZ (pickZ p (foodAt p.at_ l)) (homeCell x base p) false := by rw [retZ, if_pos e]; rfl
     refine callX [] (impl_WayTo x p.at_ base hx) (by simp -implicitDefEqProofs only [go_sem]) ?_
     simp -implicitDefEqProofs only [go_sem]
     refine ⟨by omega, by omega, fun c3 hc3 => ?_⟩
     rw [same hc1 hc3, hc2]
     refine callX [1864, 1865] (impl_passed (pickZ p (foodAt p.at_ l)) (homeCell x base p) false hc (by show p.past.length <= _; omega) (by unfold I64; omega)) (by simp -implicitDefEqProofs only [go_sem]) ?_
     simp -implicitDefEqProofs only [go_sem]
     refine ⟨fun h5 => absurd hE h5, fun h5 => ?_⟩
     rw [if_pos hE]
     rw [el, ez, et]
     exact ⟨⟨⟨rfl, rfl, rfl, rfl⟩, rfl, dec_t e⟩, rfl, rfl, rfl⟩
    ·have el : retL x base r l p false = l := by rw [retL, if_pos e, if_neg h4]
     have ez : retZ x base r l p false = dayZ (pickZ p (foodAt p.at_ l)) (homeCell x base p) false := by rw [retZ, if_pos e]; rfl
     refine callX [] (impl_WayTo x p.at_ base hx) (by simp -implicitDefEqProofs only [go_sem]) ?_
     simp -implicitDefEqProofs only [go_sem]
     refine ⟨by omega, by omega, fun c3 hc3 => ?_⟩
     rw [same hc1 hc3, hc2]
     refine callX [1864, 1865] (impl_passed (pickZ p (foodAt p.at_ l)) (homeCell x base p) false hc (by show p.past.length <= _; omega) (by unfold I64; omega)) (by simp -implicitDefEqProofs only [go_sem]) ?_
     simp -implicitDefEqProofs only [go_sem]
     refine ⟨fun h5 => absurd hE h5, fun h5 => ?_⟩
     rw [if_pos hE]
     rw [el, ez]
     exact ⟨⟨⟨rfl, rfl, rfl, rfl⟩, rfl, dec_t e⟩, rfl, rfl, rfl⟩
   ·refine callX [] (impl_copied p hc (by omega)) (by simp -implicitDefEqProofs only [go_sem]) ?_
    simp -implicitDefEqProofs only [go_sem]
    refine callX [] (impl_copyDepots l hl) (by simp -implicitDefEqProofs only [go_sem]) ?_
    simp -implicitDefEqProofs only [go_sem]
    have e : ¬ retP x base r l p false := fun h => h.2.1 h2
    rw [retZ, retL, if_neg e, if_neg e]; exact ⟨⟨⟨rfl, rfl, rfl, rfl⟩, rfl, dec_f e⟩, rfl, rfl, rfl⟩
  ·refine callX [] (impl_copied p hc (by omega)) (by simp -implicitDefEqProofs only [go_sem]) ?_
   simp -implicitDefEqProofs only [go_sem]
   refine callX [] (impl_copyDepots l hl) (by simp -implicitDefEqProofs only [go_sem]) ?_
   simp -implicitDefEqProofs only [go_sem]
   have e : ¬ retP x base r l p false := fun h => h1 h.1
   rw [retZ, retL, if_neg e, if_neg e]; exact ⟨⟨⟨rfl, rfl, rfl, rfl⟩, rfl, dec_f e⟩, rfl, rfl, rfl⟩
 ·refine SC.of_W mixed Tryz.func209 (by kernel_rfl) rfl Tryz.results209 _ Tryz.ntmps209 (by simp) ?_
  simp -implicitDefEqProofs only [go_sem]
  refine callX [] (impl_CanReturn x base r l p hx hl hc) (by simp -implicitDefEqProofs only [go_sem]) ?_
  simp -implicitDefEqProofs only [go_sem]
  refine ⟨fun h1 => ?_, fun h1 => ?_⟩
  ·refine ⟨fun h2 => ?_, fun h2 => ?_⟩
   ·refine callX [] (impl_MayStorm r p.past (by omega)) (by simp -implicitDefEqProofs only [go_sem]) ?_
    simp -implicitDefEqProofs only [go_sem]
    refine ⟨fun h3 => ?_, fun h3 => ?_⟩
    ·refine callX [] (impl_copied p hc (by omega)) (by simp -implicitDefEqProofs only [go_sem]) ?_
     simp -implicitDefEqProofs only [go_sem]
     refine callX [] (impl_copyDepots l hl) (by simp -implicitDefEqProofs only [go_sem]) ?_
     simp -implicitDefEqProofs only [go_sem]
     have e : ¬ retP x base r l p true := fun h => h3 (h.2.2 rfl)
     rw [retZ, retL, if_neg e, if_neg e]; exact ⟨⟨⟨rfl, rfl, rfl, rfl⟩, rfl, dec_f e⟩, rfl, rfl, rfl⟩
    ·have e : retP x base r l p true := ⟨h1, h2, fun _ => h3⟩
     have hf := h1.food
     have h10 := h1.past
     have hD := h1.1.1.2.1
     obtain ⟨⟨c, rest, hcr⟩, hE⟩ := back_way h1 h2
     have hpf := pick_food (n := foodAt p.at_ l) hf
     have hwl := wayZ_len x p.at_ base
     have hc1 : (wayZ x p.at_ base)[1]? = some c := by have h := congrArg (·[0]?) hcr; simpa using h
     have hc2 := homeCell_get hc1
     have hcl := (List.getElem?_eq_some_iff.1 hc1).1
     refine ⟨some [], by decide +kernel, ?_⟩
     simp -implicitDefEqProofs only [go_sem]
     refine callXQ [] (impl_FoodAt l p.at_ hl) (by simp -implicitDefEqProofs only [go_sem]) ?_
     simp -implicitDefEqProofs only [go_sem]
     refine callXQ [] (impl_PickUp p (foodAt p.at_ l) hc (by omega) (by omega)) (by simp -implicitDefEqProofs only [go_sem]) ?_
     simp -implicitDefEqProofs only [go_sem]
     refine callX [] (impl_copyDepots l hl) (by simp -implicitDefEqProofs only [go_sem]) ?_
     simp -implicitDefEqProofs only [go_sem]
     refine ⟨fun h4 => ?_, fun h4 => ?_⟩
     ·refine callX [] (impl_Take x l p.at_ (pickN p (foodAt p.at_ l)) hx hl) (by simp -implicitDefEqProofs only [go_sem]) ?_
      simp -implicitDefEqProofs only [go_sem]
      have et : takeZ x l p.at_ (pickN p (foodAt p.at_ l)) = takeL p.at_ (pickN p (foodAt p.at_ l)) l := if_pos (pick_take hD h4)
      have el : retL x base r l p true = takeL p.at_ (pickN p (foodAt p.at_ l)) l := by rw [retL, if_pos e, if_pos h4]
      have ez : retZ x base r l p true = dayZ (pickZ p (foodAt p.at_ l)) p.at_ true := by rw [retZ, if_pos e]; rfl
      refine callX [1864, 1865] (impl_passed (pickZ p (foodAt p.at_ l)) p.at_ true hc (by show p.past.length <= _; omega) (by unfold I64; omega)) (by simp -implicitDefEqProofs only [go_sem]) ?_
      simp -implicitDefEqProofs only [go_sem]
      refine ⟨fun h5 => absurd hE h5, fun h5 => ?_⟩
      rw [if_pos hE]
      rw [el, ez, et]
      exact ⟨⟨⟨rfl, rfl, rfl, rfl⟩, rfl, dec_t e⟩, rfl, rfl, rfl⟩
     ·have el : retL x base r l p true = l := by rw [retL, if_pos e, if_neg h4]
      have ez : retZ x base r l p true = dayZ (pickZ p (foodAt p.at_ l)) p.at_ true := by rw [retZ, if_pos e]; rfl
      refine callX [1864, 1865] (impl_passed (pickZ p (foodAt p.at_ l)) p.at_ true hc (by show p.past.length <= _; omega) (by unfold I64; omega)) (by simp -implicitDefEqProofs only [go_sem]) ?_
      simp -implicitDefEqProofs only [go_sem]
      refine ⟨fun h5 => absurd hE h5, fun h5 => ?_⟩
      rw [if_pos hE]
      rw [el, ez]
      exact ⟨⟨⟨rfl, rfl, rfl, rfl⟩, rfl, dec_t e⟩, rfl, rfl, rfl⟩
   ·refine callX [] (impl_copied p hc (by omega)) (by simp -implicitDefEqProofs only [go_sem]) ?_
    simp -implicitDefEqProofs only [go_sem]
    refine callX [] (impl_copyDepots l hl) (by simp -implicitDefEqProofs only [go_sem]) ?_
    simp -implicitDefEqProofs only [go_sem]
    have e : ¬ retP x base r l p true := fun h => h.2.1 h2
    rw [retZ, retL, if_neg e, if_neg e]; exact ⟨⟨⟨rfl, rfl, rfl, rfl⟩, rfl, dec_f e⟩, rfl, rfl, rfl⟩
  ·refine callX [] (impl_copied p hc (by omega)) (by simp -implicitDefEqProofs only [go_sem]) ?_
   simp -implicitDefEqProofs only [go_sem]
   refine callX [] (impl_copyDepots l hl) (by simp -implicitDefEqProofs only [go_sem]) ?_
   simp -implicitDefEqProofs only [go_sem]
   have e : ¬ retP x base r l p true := fun h => h1 h.1
   rw [retZ, retL, if_neg e, if_neg e]; exact ⟨⟨⟨rfl, rfl, rfl, rfl⟩, rfl, dec_f e⟩, rfl, rfl, rfl⟩
end Go.Abs
