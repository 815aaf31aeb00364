/- Days on the way: taking, returning, going, waiting. -/
import Derived.Test.YthobmgkagcampaaGreatDoorAWorst
namespace Go.Abs
open Go.RowKit Go.Proofs
set_option linter.all false
set_option maxRecDepth 100000
theorem backP.food {x : DLand} {base : Int} {r : DRule} {l : List DDepot} {p : DParty} (h : backP x base r l p) : 0 <= p.food /\ p.food <= 10000 := h.1.1.2.2.2.2.1
theorem backP.past {x : DLand} {base : Int} {r : DRule} {l : List DDepot} {p : DParty} (h : backP x base r l p) : p.past.length <= 10 := h.1.1.2.2.2.2.2
def takeStepP (x : DLand) (base : Int) (r : DRule) (l : List DDepot) (p : DParty) (n : Int) : Prop := takeP x l p.at_ n /\ backP x base r l p /\ n <= roomZ p
noncomputable instance (x : DLand) (base : Int) (r : DRule) (l : List DDepot) (p : DParty) (n : Int) : Decidable (takeStepP x base r l p n) := Classical.propDecidable _
noncomputable def takeStepZ (x : DLand) (base : Int) (r : DRule) (l : List DDepot) (p : DParty) (n : Int) : DParty := if takeStepP x base r l p n then { p with food := p.food + n } else p
noncomputable def takeStepL (x : DLand) (base : Int) (r : DRule) (l : List DDepot) (p : DParty) (n : Int) : List DDepot := if takeStepP x base r l p n then takeL p.at_ n l else l
theorem takeStepL_len (x : DLand) (base : Int) (r : DRule) (l : List DDepot) (p : DParty) (n : Int) : (takeStepL x base r l p n).length <= l.length := by
 unfold takeStepL; split
 ·exact takeL_len _ _ _
 ·exact Nat.le_refl _
theorem takeStepZ_crew {x : DLand} {base : Int} {r : DRule} {l : List DDepot} {p : DParty} {n : Int} : (takeStepZ x base r l p n).crew = p.crew /\ (takeStepZ x base r l p n).past = p.past := by
 by_cases h : takeStepP x base r l p n
 ·rw [takeStepZ, if_pos h]; exact ⟨rfl, rfl⟩
 ·rw [takeStepZ, if_neg h]; exact ⟨rfl, rfl⟩
theorem takeStepZ_c {x : DLand} {base : Int} {r : DRule} {l : List DDepot} {p : DParty} {n : Int} {N : Nat} (h : p.crew.length <= N) : (takeStepZ x base r l p n).crew.length <= N := by rw [takeStepZ_crew.1]; exact h
theorem takeStepZ_p {x : DLand} {base : Int} {r : DRule} {l : List DDepot} {p : DParty} {n : Int} {N : Nat} (h : p.past.length <= N) : (takeStepZ x base r l p n).past.length <= N := by rw [takeStepZ_crew.2]; exact h
theorem impl_TakeStep (x : DLand) (base : Int) (r : DRule) (l : List DDepot) (p : DParty) (n : Int) (hx : x.cells.length <= 1048576) (hl : l.length <= 1048576) (hc : p.crew.length <= 1048576) (hp : p.past.length <= 1048576) :
  SC Tryz.prog 211 [.ag x.ats, .at (.v (.int .i64 base)), .ag r.ats, .at (.im 2 (l.map DDepot.row)), .ag p.ats, .at (.v (.int .i64 n))] [] (.tp [.ag (takeStepZ x base r l p n).frs, .at (.fr 2 ((takeStepL x base r l p n).map DDepot.row)), .at (.v (.bool (decide (takeStepP x base r l p n))))]) [] := by
 refine SC.of_W mixed Tryz.func211 (by kernel_rfl) rfl Tryz.results211 _ Tryz.ntmps211 (by simp) ?_
 simp -implicitDefEqProofs only [go_sem]
 refine callX [] (impl_Take x l p.at_ n hx hl) (by simp -implicitDefEqProofs only [go_sem]) ?_
 simp -implicitDefEqProofs only [go_sem]
 refine ⟨fun h1 => ?_, fun h1 => ?_⟩
 ·refine callX [] (impl_CanReturn x base r l p hx hl hc) (by simp -implicitDefEqProofs only [go_sem]) ?_
  simp -implicitDefEqProofs only [go_sem]
  refine ⟨fun h2 => ?_, fun h2 => ?_⟩
  ·refine callX [] (impl_RoomFor p hc) (by simp -implicitDefEqProofs only [go_sem]) ?_
   simp -implicitDefEqProofs only [go_sem]
   refine ⟨fun h3 => ?_, fun h3 => ?_⟩
   ·have e : ¬ takeStepP x base r l p n := fun h => by have := h.2.2; omega
    refine callX [] (impl_copied p hc hp) (by simp -implicitDefEqProofs only [go_sem]) ?_
    simp -implicitDefEqProofs only [go_sem]
    refine callX [] (impl_copyDepots l hl) (by simp -implicitDefEqProofs only [go_sem]) ?_
    simp -implicitDefEqProofs only [go_sem]
    rw [takeStepZ, takeStepL, if_neg e, if_neg e]; exact ⟨⟨⟨rfl, rfl, rfl, rfl⟩, rfl, dec_f e⟩, rfl, rfl, rfl⟩
   ·have e : takeStepP x base r l p n := ⟨h1, h2, by omega⟩
    have hf := h2.food
    have hb := foodAt_bnd h1.1.food p.at_
    have h5 := h1.2
    rw [wrap64 (by omega) (by omega)]
    refine callX [] (impl_less p (0 - n) hc hp (by unfold I64; omega)) (by simp -implicitDefEqProofs only [go_sem]) ?_
    simp -implicitDefEqProofs only [go_sem]
    rw [show p.food - (0 - n) = p.food + n by omega]
    rw [takeStepZ, takeStepL, if_pos e, if_pos e, takeZ, if_pos h1]; exact ⟨⟨⟨rfl, rfl, rfl, rfl⟩, rfl, dec_t e⟩, rfl, rfl, rfl⟩
  ·have e : ¬ takeStepP x base r l p n := fun h => h2 h.2.1
   refine callX [] (impl_copied p hc hp) (by simp -implicitDefEqProofs only [go_sem]) ?_
   simp -implicitDefEqProofs only [go_sem]
   refine callX [] (impl_copyDepots l hl) (by simp -implicitDefEqProofs only [go_sem]) ?_
   simp -implicitDefEqProofs only [go_sem]
   rw [takeStepZ, takeStepL, if_neg e, if_neg e]; exact ⟨⟨⟨rfl, rfl, rfl, rfl⟩, rfl, dec_f e⟩, rfl, rfl, rfl⟩
 ·have e : ¬ takeStepP x base r l p n := fun h => h1 h.1
  refine callX [] (impl_copied p hc hp) (by simp -implicitDefEqProofs only [go_sem]) ?_
  simp -implicitDefEqProofs only [go_sem]
  refine callX [] (impl_copyDepots l hl) (by simp -implicitDefEqProofs only [go_sem]) ?_
  simp -implicitDefEqProofs only [go_sem]
  rw [takeStepZ, takeStepL, if_neg e, if_neg e]; exact ⟨⟨⟨rfl, rfl, rfl, rfl⟩, rfl, dec_f e⟩, rfl, rfl, rfl⟩
end Go.Abs
