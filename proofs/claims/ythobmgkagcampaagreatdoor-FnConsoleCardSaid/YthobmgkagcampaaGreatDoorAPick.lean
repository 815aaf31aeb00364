/- Parties copied, fed, loaded. -/
import Derived.Test.YthobmgkagcampaaGreatDoorAMove
namespace Go.Abs
open Go.RowKit Go.Proofs
set_option linter.all false
set_option maxRecDepth 100000
theorem room_s {n b : Nat} (h : n <= 1048576) (hb : b <= 1024) : Room n b := by
 unfold Room
 have : n * b <= 1048576 * 1024 := Nat.mul_le_mul h hb
 omega
theorem spec_l9Copy (p : DParty) (h1 : p.crew.length <= 1048576) (h2 : p.past.length <= 1048576) : SC Tryz.prog 118 [.ag p.ats] [] (.ag p.frs) [] := by
 refine SC.of_W mixed Tryz.func118 (by kernel_rfl) rfl Tryz.results118 _ Tryz.ntmps118 (by simp) ?_
 simp -implicitDefEqProofs only [go_sem]
 refine ⟨some [], by decide +kernel, ?_⟩
 simp -implicitDefEqProofs only [go_sem]
 exact ⟨room_s h1 (by decide), room_s h2 (by decide)⟩
theorem impl_copied (p : DParty) (h1 : p.crew.length <= 1048576) (h2 : p.past.length <= 1048576) : SC Tryz.prog 83 [.ag p.ats] [] (.ag p.frs) [] := by
 refine SC.of_W mixed Tryz.func83 (by kernel_rfl) rfl Tryz.results83 _ Tryz.ntmps83 (by simp) ?_
 simp -implicitDefEqProofs only [go_sem]
 refine ⟨some [], by decide +kernel, ?_⟩
 simp -implicitDefEqProofs only [go_sem]
 refine callXQ [] (impl_copyCrew p.crew h1) (by simp -implicitDefEqProofs only [go_sem]) ?_
 simp -implicitDefEqProofs only [go_sem]
 exact room_s h2 (by decide)
noncomputable def pickN (p : DParty) (n : Int) : Int := max 0 (min n (roomZ p))
noncomputable def pickZ (p : DParty) (n : Int) : DParty := { p with food := p.food + pickN p n }
theorem pickN_bnd (p : DParty) (n : Int) : 0 <= pickN p n /\ pickN p n <= 800 := by
 have := roomZ_bnd p
 unfold pickN; omega
theorem spec_PickUp (p : DParty) (n : Int) (h1 : p.crew.length <= 1048576) (h2 : p.past.length <= 1048576) (hf : -1000000000000 <= p.food /\ p.food <= 1000000000000) : SC Tryz.prog 248 [.ag p.ats, .at (.v (.int .i64 n))] [] (.tp [.ag (pickZ p n).frs, .at (.v (.int .i64 (pickN p n)))]) [] := by
 refine SC.of_W mixed Tryz.func248 (by kernel_rfl) rfl Tryz.results248 _ Tryz.ntmps248 (by simp) ?_
 simp -implicitDefEqProofs only [go_sem]
 refine callX [] (spec_l9Copy p h1 h2) (by simp -implicitDefEqProofs only [go_sem]) ?_
 simp -implicitDefEqProofs only [go_sem]
 refine callX [] (spec_RoomFor p h1) (by simp -implicitDefEqProofs only [go_sem]) ?_
 simp -implicitDefEqProofs only [go_sem]
 refine callX [] (spec_Min n (roomZ p)) (by simp -implicitDefEqProofs only [go_sem]) ?_
 simp -implicitDefEqProofs only [go_sem]
 refine callX [] (spec_Max 0 (min n (roomZ p))) (by simp -implicitDefEqProofs only [go_sem]) ?_
 simp -implicitDefEqProofs only [go_sem]
 have hb := pickN_bnd p n
 unfold pickN at hb
 rw [wrap64 (by omega) (by omega)]
 exact ⟨⟨⟨rfl, rfl, rfl, rfl⟩, rfl⟩, rfl, rfl⟩
theorem impl_PickUp (p : DParty) (n : Int) (h1 : p.crew.length <= 1048576) (h2 : p.past.length <= 1048576) (hf : -1000000000000 <= p.food /\ p.food <= 1000000000000) : SC Tryz.prog 266 [.ag p.ats, .at (.v (.int .i64 n))] [] (.tp [.ag (pickZ p n).frs, .at (.v (.int .i64 (pickN p n)))]) [] := by
 refine SC.of_W mixed Tryz.func266 (by kernel_rfl) rfl Tryz.results266 _ Tryz.ntmps266 (by simp) ?_
 simp -implicitDefEqProofs only [go_sem]
 refine callX [] (impl_copied p h1 h2) (by simp -implicitDefEqProofs only [go_sem]) ?_
 simp -implicitDefEqProofs only [go_sem]
 have hb := pickN_bnd p n
 have hr := roomZ_bnd p
 refine ⟨fun h => ?_, fun h => ?_⟩
 ·have e : pickN p n = 0 := by unfold pickN; omega
  simp [pickZ, e]
 ·refine callX [] (impl_RoomFor p h1) (by simp -implicitDefEqProofs only [go_sem]) ?_
  simp -implicitDefEqProofs only [go_sem]
  have e : pickN p n = min n (roomZ p) := by unfold pickN; omega
  rw [wrap64 (by omega) (by omega)]
  exact ⟨⟨⟨rfl, by rw [<- e]; rfl, rfl, rfl⟩, e.symm⟩, rfl, rfl⟩
noncomputable def eatP (p : DParty) : Prop := CrewP p.crew /\ needZ p.crew <= p.food
noncomputable instance (p : DParty) : Decidable (eatP p) := Classical.propDecidable _
noncomputable def eatZ (p : DParty) : DParty := if eatP p then { p with food := p.food - needZ p.crew } else p
theorem needZ_pos {l : List DMember} (h : CrewP l) : 1 <= needZ l := by
 have h1 := h.2.1
 cases l with
 | nil => simp at h1
 | cons m l =>
  have hm := (h.all m (by simp)).2
  rw [needZ, if_pos h]
  have := (sum_list (f := DMember.need) (l := l) (B := 10) fun x hx => by have := (h.all x (by simp [hx])).2; omega).1
  simp only [sumL, List.map_cons, List.sum_cons]
  omega
theorem needZ_0 {l : List DMember} : needZ l = 0 ↔ ¬ CrewP l := by
 constructor
 ·intro h hc; have := needZ_pos hc; omega
 ·intro h; rw [needZ, if_neg h]
theorem spec_Eat (p : DParty) (h1 : p.crew.length <= 1048576) (h2 : p.past.length <= 1048576) (hf : I64 p.food) : SC Tryz.prog 251 [.ag p.ats] [] (.tp [.ag (eatZ p).frs, .at (.v (.bool (decide (eatP p))))]) [] := by
 refine SC.of_W mixed Tryz.func251 (by kernel_rfl) rfl Tryz.results251 _ Tryz.ntmps251 (by simp) ?_
 simp -implicitDefEqProofs only [go_sem]
 refine callX [] (spec_l9Copy p h1 h2) (by simp -implicitDefEqProofs only [go_sem]) ?_
 simp -implicitDefEqProofs only [go_sem]
 refine callX [] (spec_NeedOf p.crew h1) (by simp -implicitDefEqProofs only [go_sem]) ?_
 simp -implicitDefEqProofs only [go_sem]
 unfold I64 at hf
 have hb := needZ_bnd p.crew
 refine ⟨fun h3 => ⟨fun h4 => ?_, fun h4 => ?_⟩, fun h3 => ?_⟩
 ·have e : ¬ eatP p := fun h => by have := h.2; omega
  rw [eatZ, if_neg e]
  exact ⟨⟨⟨rfl, rfl, rfl, rfl⟩, dec_f e⟩, rfl, rfl⟩
 ·have e : eatP p := ⟨Decidable.not_not.1 fun h => h3 (needZ_0.2 h), by omega⟩
  rw [eatZ, if_pos e, wrap64 (by omega) (by omega)]
  exact ⟨⟨⟨rfl, rfl, rfl, rfl⟩, dec_t e⟩, rfl, rfl⟩
 ·have e : ¬ eatP p := fun h => needZ_0.1 h3 h.1
  rw [eatZ, if_neg e]
  exact ⟨⟨⟨rfl, rfl, rfl, rfl⟩, dec_f e⟩, rfl, rfl⟩
theorem impl_Eat (p : DParty) (h1 : p.crew.length <= 1048576) (h2 : p.past.length <= 1048576) (hf : I64 p.food) : SC Tryz.prog 268 [.ag p.ats] [] (.tp [.ag (eatZ p).frs, .at (.v (.bool (decide (eatP p))))]) [] := by
 refine SC.of_W mixed Tryz.func268 (by kernel_rfl) rfl Tryz.results268 _ Tryz.ntmps268 (by simp) ?_
 simp -implicitDefEqProofs only [go_sem]
 refine callX [] (impl_copied p h1 h2) (by simp -implicitDefEqProofs only [go_sem]) ?_
 simp -implicitDefEqProofs only [go_sem]
 refine ⟨some [], by decide +kernel, ?_⟩
 simp -implicitDefEqProofs only [go_sem]
 refine callXQ [] (impl_AreCrew p.crew h1) (by simp -implicitDefEqProofs only [go_sem]) ?_
 simp -implicitDefEqProofs only [go_sem]
 unfold I64 at hf
 have hb := needZ_bnd p.crew
 refine ⟨fun h3 => ?_, fun h3 => ?_⟩
 ·refine callXQ [] (impl_NeedOf p.crew h1) (by simp -implicitDefEqProofs only [go_sem]) ?_
  simp -implicitDefEqProofs only [go_sem]
  refine ⟨fun h4 => ?_, fun h4 => ?_⟩
  ·have e : ¬ eatP p := fun h => by have := h.2; omega
   rw [eatZ, if_neg e]
   exact ⟨⟨⟨rfl, rfl, rfl, rfl⟩, dec_f e⟩, rfl, rfl⟩
  ·refine ⟨some [], by decide +kernel, ?_⟩
   simp -implicitDefEqProofs only [go_sem]
   refine callXQ [] (impl_NeedOf p.crew h1) (by simp -implicitDefEqProofs only [go_sem]) ?_
   simp -implicitDefEqProofs only [go_sem]
   have e : eatP p := ⟨h3, by omega⟩
   rw [eatZ, if_pos e, wrap64 (by omega) (by omega)]
   exact ⟨⟨⟨rfl, rfl, rfl, rfl⟩, dec_t e⟩, rfl, rfl⟩
 ·have e : ¬ eatP p := fun h => h3 h.1
  rw [eatZ, if_neg e]
  exact ⟨⟨⟨rfl, rfl, rfl, rfl⟩, dec_f e⟩, rfl, rfl⟩
theorem impl_less (p : DParty) (n : Int) (h1 : p.crew.length <= 1048576) (h2 : p.past.length <= 1048576) (hf : I64 (p.food - n)) : SC Tryz.prog 185 [.ag p.ats, .at (.v (.int .i64 n))] [] (.ag ({ p with food := p.food - n } : DParty).frs) [] := by
 refine SC.of_W mixed Tryz.func185 (by kernel_rfl) rfl Tryz.results185 _ Tryz.ntmps185 (by simp) ?_
 simp -implicitDefEqProofs only [go_sem]
 refine callX [] (impl_copied p h1 h2) (by simp -implicitDefEqProofs only [go_sem]) ?_
 simp -implicitDefEqProofs only [go_sem]
 unfold I64 at hf
 rw [wrap64 (by omega) (by omega)]
end Go.Abs
