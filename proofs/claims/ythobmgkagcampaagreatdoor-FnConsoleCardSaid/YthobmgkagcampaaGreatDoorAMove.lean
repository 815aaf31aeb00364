/- Food, loads, days: what parties and depots do. -/
import Derived.Test.YthobmgkagcampaaGreatDoorAParty
namespace Go.Abs
open Go.RowKit Go.Proofs
set_option linter.all false
set_option maxRecDepth 100000
theorem CrewP.all {l : List DMember} (h : CrewP l) : ∀ m ∈ l, (0 <= m.strength /\ m.strength <= 100) /\ (1 <= m.need /\ m.need <= 10) := by
 intro m hm
 obtain ⟨i, hi⟩ := List.getElem?_of_mem hm
 have := h.1 i m hi
 exact ⟨this.2.1, this.2.2.1⟩
def loadOf (m : DMember) : Int := if m.ill = true then 0 else m.strength
noncomputable def capZ (l : List DMember) : Int := if CrewP l then sumL loadOf l else 0
noncomputable def needZ (l : List DMember) : Int := if CrewP l then sumL DMember.need l else 0
theorem load_bnd {l : List DMember} (h : CrewP l) : ∀ m ∈ l, 0 <= loadOf m /\ loadOf m <= 100 := by
 intro m hm
 have := (h.all m hm).1
 unfold loadOf; split <;> omega
theorem need_bnd {l : List DMember} (h : CrewP l) : ∀ m ∈ l, 0 <= m.need /\ m.need <= 10 := fun m hm => by have := (h.all m hm).2; omega
theorem capZ_bnd (l : List DMember) : 0 <= capZ l /\ capZ l <= 800 := by
 unfold capZ
 split
 ·rename_i h
  have := sum_all (load_bnd h)
  have := h.2.2; omega
 ·omega
theorem needZ_bnd (l : List DMember) : 0 <= needZ l /\ needZ l <= 80 := by
 unfold needZ
 split
 ·rename_i h
  have := sum_all (need_bnd h)
  have := h.2.2; omega
 ·omega
theorem impl_NeedOf (l : List DMember) (hl : l.length <= 1048576) : SC Tryz.prog 192 [.at (.im 4 (l.map DMember.row))] [] (.at (.v (.int .i64 (needZ l)))) [] := by
 refine SC.of_V mixed Tryz.func192 (by kernel_rfl) rfl Tryz.results192 _ Tryz.ntmps192 (by simp) ?_
 simp -implicitDefEqProofs only [go_sem]
 refine callX [] (impl_AreCrew l hl) (by simp -implicitDefEqProofs only [go_sem]) ?_
 simp -implicitDefEqProofs only [go_sem]
 refine ⟨fun hc => by rw [needZ, if_neg hc], fun hc => ?_⟩
 refine T.loopW mixed [3, 9, 10, 11] (fun mm vs es => ∃ (i : Nat), vs = [.at (.v (.int .i64 (sumT DMember.need l i))), .at (.im 4 (l.map DMember.row)), .at (.v (.int .i64 l.length)), .at (.v (.int .i64 i))] /\ es = [] /\ mm + i = l.length) l.length ?_ ?_
 ·simp -implicitDefEqProofs only [go_sem]; exact ⟨0, ⟨sum0.symm, rfl⟩, by omega⟩
 rintro n _ _ ⟨i, rfl, rfl, hn⟩
 simp -implicitDefEqProofs only [go_sem]
 refine ⟨fun h => ?_, fun h => ?_⟩
 ·skip
  refine ⟨by omega, fun m hm => ?_⟩
  have hb := sum_bound (i := i) (need_bnd hc) (by omega)
  have hm2 := need_bnd hc m (mem_get hm)
  have h8 := hc.2.2
  rw [wrap64 (by omega) (by omega), wrap64 (by omega) (by omega)]
  exact ⟨n - 1, by omega, i + 1, ⟨(sumS hm).symm, rfl⟩, by omega⟩
 ·rw [needZ, if_pos hc, sumEnd h]
theorem spec_NeedOf (l : List DMember) (hl : l.length <= 1048576) : SC Tryz.prog 236 [.at (.im 4 (l.map DMember.row))] [] (.at (.v (.int .i64 (needZ l)))) [] := by
 refine SC.of_V mixed Tryz.func236 (by kernel_rfl) rfl Tryz.results236 _ Tryz.ntmps236 (by simp) ?_
 simp -implicitDefEqProofs only [go_sem]
 refine T.loopW mixed [0, 3, 4] (fun mm vs es => ∃ (i : Nat), vs = [.at (.im 4 (l.map DMember.row)), .at (.v (.int .i64 (sumT DMember.need l i))), .at (.v (.int .i64 i))] /\ es = [] /\ mm + i = l.length /\ (¬ CrewP l -> i = 0)) l.length ?_ ?_
 ·simp -implicitDefEqProofs only [go_sem]; exact ⟨0, ⟨sum0.symm, rfl⟩, by omega, fun _ => rfl⟩
 rintro n _ _ ⟨i, rfl, rfl, hn, hz⟩
 simp -implicitDefEqProofs only [go_sem]
 refine ⟨fun h => ?_, fun h => ?_⟩
 ·skip
  refine callX [] (spec_AreCrew l hl) (by simp -implicitDefEqProofs only [go_sem]) ?_
  simp -implicitDefEqProofs only [go_sem]
  refine ⟨fun hc => ⟨by omega, fun m hm => ?_⟩, fun hc => by rw [needZ, if_neg hc, hz hc, sum0]⟩
  have hb := sum_bound (i := i) (need_bnd hc) (by omega)
  have hm2 := need_bnd hc m (mem_get hm)
  have h8 := hc.2.2
  rw [wrap64 (by omega) (by omega), wrap64 (by omega) (by omega)]
  exact ⟨n - 1, by omega, i + 1, ⟨(sumS hm).symm, rfl⟩, by omega, fun h5 => absurd hc h5⟩
 ·by_cases hc : CrewP l
  ·rw [needZ, if_pos hc, sumEnd h]
  ·rw [needZ, if_neg hc, hz hc, sum0]
theorem impl_CapOf (l : List DMember) (hl : l.length <= 1048576) : SC Tryz.prog 193 [.at (.im 4 (l.map DMember.row))] [] (.at (.v (.int .i64 (capZ l)))) [] := by
 refine SC.of_V mixed Tryz.func193 (by kernel_rfl) rfl Tryz.results193 _ Tryz.ntmps193 (by simp) ?_
 simp -implicitDefEqProofs only [go_sem]
 refine callX [] (impl_AreCrew l hl) (by simp -implicitDefEqProofs only [go_sem]) ?_
 simp -implicitDefEqProofs only [go_sem]
 refine ⟨fun hc => by rw [capZ, if_neg hc], fun hc => ?_⟩
 refine T.loopW mixed [3, 9, 10, 11] (fun mm vs es => ∃ (i : Nat), vs = [.at (.v (.int .i64 (sumT loadOf l i))), .at (.im 4 (l.map DMember.row)), .at (.v (.int .i64 l.length)), .at (.v (.int .i64 i))] /\ es = [] /\ mm + i = l.length) l.length ?_ ?_
 ·simp -implicitDefEqProofs only [go_sem]; exact ⟨0, ⟨sum0.symm, rfl⟩, by omega⟩
 rintro n _ _ ⟨i, rfl, rfl, hn⟩
 simp -implicitDefEqProofs only [go_sem]
 refine ⟨fun h => ?_, fun h => ?_⟩
 ·skip
  refine ⟨by omega, fun m hm => ?_⟩
  have hb := sum_bound (i := i) (load_bnd hc) (by omega)
  have hm2 := (hc.all m (mem_get hm)).1
  have h8 := hc.2.2
  refine ⟨fun e => ?_, fun e => ?_⟩
  ·rw [wrap64 (by omega) (by omega), wrap64 (by omega) (by omega)]
   exact ⟨n - 1, by omega, i + 1, ⟨by rw [sumS hm, loadOf, if_neg (by simp [e])], rfl⟩, by omega⟩
  ·rw [wrap64 (by omega) (by omega)]
   exact ⟨n - 1, by omega, i + 1, ⟨by rw [sumS hm, loadOf, if_pos e]; simp, rfl⟩, by omega⟩
 ·rw [capZ, if_pos hc, sumEnd h]
theorem spec_CapOf (l : List DMember) (hl : l.length <= 1048576) : SC Tryz.prog 161 [.at (.im 4 (l.map DMember.row))] [] (.at (.v (.int .i64 (capZ l)))) [] := by
 refine SC.of_V mixed Tryz.func161 (by kernel_rfl) rfl Tryz.results161 _ Tryz.ntmps161 (by simp) ?_
 simp -implicitDefEqProofs only [go_sem]
 refine T.loopW mixed [0, 3, 4] (fun mm vs es => ∃ (i : Nat), vs = [.at (.im 4 (l.map DMember.row)), .at (.v (.int .i64 (sumT loadOf l i))), .at (.v (.int .i64 i))] /\ es = [] /\ mm + i = l.length /\ (¬ CrewP l -> i = 0)) l.length ?_ ?_
 ·simp -implicitDefEqProofs only [go_sem]; exact ⟨0, ⟨sum0.symm, rfl⟩, by omega, fun _ => rfl⟩
 rintro n _ _ ⟨i, rfl, rfl, hn, hz⟩
 simp -implicitDefEqProofs only [go_sem]
 refine ⟨fun h => ?_, fun h => ?_⟩
 ·skip
  refine callX [] (spec_AreCrew l hl) (by simp -implicitDefEqProofs only [go_sem]) ?_
  simp -implicitDefEqProofs only [go_sem]
  refine ⟨fun hc => ⟨by omega, fun m hm => ?_⟩, fun hc => by rw [capZ, if_neg hc, hz hc, sum0]⟩
  have hb := sum_bound (i := i) (load_bnd hc) (by omega)
  have hm2 := (hc.all m (mem_get hm)).1
  have h8 := hc.2.2
  refine ⟨fun e => ⟨by omega, fun m2 hm2' => ?_⟩, fun e => ?_⟩
  ·rw [same hm hm2', wrap64 (by omega) (by omega), wrap64 (by omega) (by omega)]
   exact ⟨n - 1, by omega, i + 1, ⟨by rw [sumS hm, loadOf, if_neg (by simp [e])], rfl⟩, by omega, fun h5 => absurd hc h5⟩
  ·rw [wrap64 (by omega) (by omega)]
   exact ⟨n - 1, by omega, i + 1, ⟨by rw [sumS hm, loadOf, if_pos e]; simp, rfl⟩, by omega, fun h5 => absurd hc h5⟩
 ·by_cases hc : CrewP l
  ·rw [capZ, if_pos hc, sumEnd h]
  ·rw [capZ, if_neg hc, hz hc, sum0]
noncomputable def roomZ (p : DParty) : Int := if p.food < 0 \/ capZ p.crew <= p.food then 0 else capZ p.crew - p.food
theorem roomZ_bnd (p : DParty) : 0 <= roomZ p /\ roomZ p <= 800 := by
 have := capZ_bnd p.crew
 unfold roomZ; split <;> omega
theorem impl_RoomFor (p : DParty) (hl : p.crew.length <= 1048576) : SC Tryz.prog 204 [.ag p.ats] [] (.at (.v (.int .i64 (roomZ p)))) [] := by
 refine SC.of_V mixed Tryz.func204 (by kernel_rfl) rfl Tryz.results204 _ Tryz.ntmps204 (by simp) ?_
 simp -implicitDefEqProofs only [go_sem]
 have hb := capZ_bnd p.crew
 refine ⟨some [], by decide +kernel, ?_⟩
 simp -implicitDefEqProofs only [go_sem]
 refine ⟨fun h1 => ?_, fun h1 => by rw [roomZ, if_pos (.inl h1)]⟩
 refine callXQ [] (impl_CapOf p.crew hl) (by simp -implicitDefEqProofs only [go_sem]) ?_
 simp -implicitDefEqProofs only [go_sem]
 refine ⟨fun h2 => by rw [roomZ, if_pos (.inr h2)], fun h2 => ?_⟩
 refine ⟨some [], by decide +kernel, ?_⟩
 simp -implicitDefEqProofs only [go_sem]
 refine callXQ [] (impl_CapOf p.crew hl) (by simp -implicitDefEqProofs only [go_sem]) ?_
 simp -implicitDefEqProofs only [go_sem]
 rw [wrap64 (by omega) (by omega), roomZ, if_neg (by omega)]
theorem spec_RoomFor (p : DParty) (hl : p.crew.length <= 1048576) : SC Tryz.prog 73 [.ag p.ats] [] (.at (.v (.int .i64 (roomZ p)))) [] := by
 refine SC.of_V mixed Tryz.func73 (by kernel_rfl) rfl Tryz.results73 _ Tryz.ntmps73 (by simp) ?_
 simp -implicitDefEqProofs only [go_sem]
 have hb := capZ_bnd p.crew
 refine callX [] (spec_CapOf p.crew hl) (by simp -implicitDefEqProofs only [go_sem]) ?_
 simp -implicitDefEqProofs only [go_sem]
 refine ⟨fun h1 => ⟨fun h2 => by rw [roomZ, if_pos (.inr h2)], fun h2 => ?_⟩, fun h1 => by rw [roomZ, if_pos (.inl h1)]⟩
 rw [wrap64 (by omega) (by omega), roomZ, if_neg (by omega)]
def foodAt (c : Int) : List DDepot -> Int
 | [] => 0
 | d :: l => if d.cell = c then d.food else foodAt c l
theorem impl_FoodAt (l : List DDepot) (c : Int) (hl : l.length <= 1048576) : SC Tryz.prog 267 [.at (.im 2 (l.map DDepot.row)), .at (.v (.int .i64 c))] [] (.at (.v (.int .i64 (foodAt c l)))) [] := by
 refine SC.of_V mixed Tryz.func267 (by kernel_rfl) rfl Tryz.results267 _ Tryz.ntmps267 (by simp) ?_
 simp -implicitDefEqProofs only [go_sem]
 refine T.loopW mixed [1, 7, 8, 9] (fun mm vs es => ∃ (i : Nat), vs = [.at (.v (.int .i64 c)), .at (.im 2 (l.map DDepot.row)), .at (.v (.int .i64 l.length)), .at (.v (.int .i64 i))] /\ es = [] /\ mm + i = l.length /\ foodAt c l = foodAt c (l.drop i)) l.length ?_ ?_
 ·simp -implicitDefEqProofs only [go_sem]; exact ⟨0, by simp, by omega, rfl⟩
 rintro n _ _ ⟨i, rfl, rfl, hn, hf⟩
 simp -implicitDefEqProofs only [go_sem]
 refine ⟨fun h => ⟨by omega, fun d hd => ⟨fun e => ?_, fun e => ?_⟩⟩, fun h => by rw [hf, drop_all h]; rfl⟩
 ·skip
  rw [hf, drop_get hd, foodAt, if_pos e]
 ·rw [wrap64 (by omega) (by omega)]
  exact ⟨n - 1, by omega, i + 1, rfl, by omega, by rw [hf, drop_get hd, foodAt, if_neg e]⟩
theorem spec_FoodAt (l : List DDepot) (c : Int) (hl : l.length <= 1048576) : SC Tryz.prog 249 [.at (.im 2 (l.map DDepot.row)), .at (.v (.int .i64 c))] [] (.at (.v (.int .i64 (foodAt c l)))) [] := by
 refine SC.of_V mixed Tryz.func249 (by kernel_rfl) rfl Tryz.results249 _ Tryz.ntmps249 (by simp) ?_
 simp -implicitDefEqProofs only [go_sem]
 refine T.loopW mixed [0, 1, 5] (fun mm vs es => ∃ (i : Nat), vs = [.at (.im 2 (l.map DDepot.row)), .at (.v (.int .i64 c)), .at (.v (.int .i64 i))] /\ es = [] /\ mm + i = l.length /\ foodAt c l = foodAt c (l.drop i)) l.length ?_ ?_
 ·simp -implicitDefEqProofs only [go_sem]; exact ⟨0, by simp, by omega, rfl⟩
 rintro n _ _ ⟨i, rfl, rfl, hn, hf⟩
 simp -implicitDefEqProofs only [go_sem]
 refine ⟨fun h => ⟨by omega, fun d hd => ⟨fun e => ?_, fun e => ?_⟩⟩, fun h => by rw [hf, drop_all h]; rfl⟩
 ·skip
  refine ⟨by omega, fun d2 hd2 => ?_⟩
  rw [same hd hd2]
  rw [hf, drop_get hd, foodAt, if_pos e]
 ·rw [wrap64 (by omega) (by omega)]
  exact ⟨n - 1, by omega, i + 1, rfl, by omega, by rw [hf, drop_get hd, foodAt, if_neg e]⟩
theorem impl_copyCrew (l : List DMember) (hl : l.length <= 1048576) : SC Tryz.prog 172 [.at (.im 4 (l.map DMember.row))] [] (.at (.fr 4 (l.map DMember.row))) [] := by
 refine SC.of_W mixed Tryz.func172 (by kernel_rfl) rfl Tryz.results172 _ Tryz.ntmps172 (by simp) ?_
 simp -implicitDefEqProofs only [go_sem]
 unfold Room; omega
theorem impl_copyDepots (l : List DDepot) (hl : l.length <= 1048576) : SC Tryz.prog 82 [.at (.im 2 (l.map DDepot.row))] [] (.at (.fr 2 (l.map DDepot.row))) [] := by
 refine SC.of_W mixed Tryz.func82 (by kernel_rfl) rfl Tryz.results82 _ Tryz.ntmps82 (by simp) ?_
 simp -implicitDefEqProofs only [go_sem]
 unfold Room; omega
theorem boolsS {l : List Bool} {b : Bool} : l.map boolRow ++ [[.bool b]] = (l ++ [b]).map boolRow := by simp [boolRow]
def addDay (l : List Bool) (b : Bool) : List Bool := (l ++ [b]).drop (l.length + 1 - 10)
theorem spec_AddDay (l : List Bool) (b : Bool) (hl : l.length <= 1048575) : SC Tryz.prog 252 [.at (.im 1 (l.map boolRow)), .at (.v (.bool b))] [] (.at (.fr 1 ((addDay l b).map boolRow))) [] := by
 refine SC.of_W mixed Tryz.func252 (by kernel_rfl) rfl Tryz.results252 _ Tryz.ntmps252 (by simp) ?_
 simp -implicitDefEqProofs only [go_sem]
 refine ⟨by unfold Room; omega, by unfold Room; omega, ?_⟩
 rw [boolsS, wrap64 (by omega) (by omega)]
 refine callX [] (spec_Max 0 (((l.length + 1 : Nat) : Int) - 10)) (by simp -implicitDefEqProofs only [go_sem]) ?_
 simp -implicitDefEqProofs only [go_sem]
 refine ⟨by omega, by simp [addDay]; omega, ?_⟩
 rw [<- List.map_drop, List.take_of_length_le (by simp only [List.length_map, List.length_drop, List.length_append, List.length_cons, List.length_nil]; omega), addDay, show (max 0 (((l.length + 1 : Nat) : Int) - 10)).toNat = l.length + 1 - 10 by omega]
theorem impl_AddDay (l : List Bool) (b : Bool) (hl : l.length <= 1048575) : SC Tryz.prog 269 [.at (.im 1 (l.map boolRow)), .at (.v (.bool b))] [] (.at (.fr 1 ((addDay l b).map boolRow))) [] := by
 refine SC.of_W mixed Tryz.func269 (by kernel_rfl) rfl Tryz.results269 _ Tryz.ntmps269 (by simp) ?_
 simp -implicitDefEqProofs only [go_sem]
 refine ⟨by unfold Room; omega, by unfold Room; omega, ?_⟩
 rw [boolsS]
 have e : l.length + 1 = (l ++ [b]).length := by simp
 rw [e]
 refine callXF [1096] (impl_last (l ++ [b]) 10 (by simp; omega) (by omega)) (by simp -implicitDefEqProofs only [go_sem]) ?_
 simp -implicitDefEqProofs only [go_sem]
 rw [show Int.toNat 10 = 10 from rfl]
 exact ⟨by unfold Room; omega, by simp [addDay], rfl⟩
def mayP (r : DRule) (l : List Bool) : Prop := r.Ok /\ stormZ (l.drop (l.length + 1 - r.window.toNat)) < r.most
noncomputable instance (r : DRule) (l : List Bool) : Decidable (mayP r l) := Classical.propDecidable _
theorem spec_MayStorm (r : DRule) (l : List Bool) (hl : l.length <= 1048576) : SC Tryz.prog 74 [.ag r.ats, .at (.im 1 (l.map boolRow))] [] (.at (.v (.bool (decide (mayP r l))))) [] := by
 refine SC.of_V mixed Tryz.func74 (by kernel_rfl) rfl Tryz.results74 _ Tryz.ntmps74 (by simp) ?_
 simp -implicitDefEqProofs only [go_sem]
 refine ⟨some [], by decide +kernel, ?_⟩
 simp -implicitDefEqProofs only [go_sem]
 refine callXQ [] (spec_IsRule r) (by simp -implicitDefEqProofs only [go_sem]) ?_
 simp -implicitDefEqProofs only [go_sem]
 refine ⟨fun h1 => ?_, fun h1 => dec_f fun h => h1 h.1⟩
 have hw := h1.1
 rw [wrap64 (x := (l.length : Int) + 1) (by omega) (by omega), wrap64 (by omega) (by omega)]
 refine callXQ [] (spec_Max 0 ((l.length : Int) + 1 - r.window)) (by simp -implicitDefEqProofs only [go_sem]) ?_
 simp -implicitDefEqProofs only [go_sem]
 refine ⟨by omega, ?_⟩
 have e1 : List.take (l.length - (max 0 ((l.length : Int) + 1 - r.window)).toNat) (List.drop (max 0 ((l.length : Int) + 1 - r.window)).toNat (l.map boolRow)) = (l.drop (l.length + 1 - r.window.toNat)).map boolRow := by
  rw [show (max 0 ((l.length : Int) + 1 - r.window)).toNat = l.length + 1 - r.window.toNat by omega, <- List.map_drop, List.take_of_length_le (by simp)]
 rw [e1]
 refine callXQ [] (spec_CountStorms (l.drop (l.length + 1 - r.window.toNat)) (by simp; omega)) (by simp -implicitDefEqProofs only [go_sem]) ?_
 simp -implicitDefEqProofs only [go_sem]
 exact decide_eq_decide.2 ⟨fun h => ⟨h1, h⟩, fun h => h.2⟩
theorem impl_MayStorm (r : DRule) (l : List Bool) (hl : l.length <= 1048576) : SC Tryz.prog 261 [.ag r.ats, .at (.im 1 (l.map boolRow))] [] (.at (.v (.bool (decide (mayP r l))))) [] := by
 refine SC.of_V mixed Tryz.func261 (by kernel_rfl) rfl Tryz.results261 _ Tryz.ntmps261 (by simp) ?_
 simp -implicitDefEqProofs only [go_sem]
 refine ⟨some [], by decide +kernel, ?_⟩
 simp -implicitDefEqProofs only [go_sem]
 refine callXQ [] (impl_IsRule r) (by simp -implicitDefEqProofs only [go_sem]) ?_
 simp -implicitDefEqProofs only [go_sem]
 refine ⟨fun h1 => ?_, fun h1 => dec_f fun h => h1 h.1⟩
 have hw := h1.1
 rw [wrap64 (by omega) (by omega)]
 refine callXQ [] (impl_last l (r.window - 1) hl (by omega)) (by simp -implicitDefEqProofs only [go_sem]) ?_
 simp -implicitDefEqProofs only [go_sem]
 rw [show l.length - (r.window - 1).toNat = l.length + 1 - r.window.toNat by omega]
 refine callXQ [] (impl_CountStorms (l.drop (l.length + 1 - r.window.toNat)) (by simp; omega)) (by simp -implicitDefEqProofs only [go_sem]) ?_
 simp -implicitDefEqProofs only [go_sem]
 exact decide_eq_decide.2 ⟨fun h => ⟨h1, h⟩, fun h => h.2⟩
end Go.Abs
