/- Depots, crews, parties: what they are. -/
import Derived.Test.YthobmgkagcampaaGreatDoorARule
import Derived.Test.YthobmgkagcampaaGreatDoorAWay
namespace Go.Abs
open Go.RowKit Go.Proofs
set_option linter.all false
set_option maxRecDepth 100000
theorem same {β : Type} {o : Option β} {a b : β} (h : o = some a) (h2 : o = some b) : b = a := by rw [h] at h2; exact (Option.some.inj h2).symm
def depP (x : DLand) (l : List DDepot) (i : Nat) (d : DDepot) : Prop := x.Open d.cell /\ (1 <= d.food /\ d.food <= 10000) /\ (0 < i -> ∀ q, l[i - 1]? = some q -> q.cell < d.cell)
def DepotsP (x : DLand) (l : List DDepot) : Prop := Each (depP x l) l /\ x.Ok /\ l.length <= 20
noncomputable instance (x : DLand) (l : List DDepot) : Decidable (DepotsP x l) := Classical.propDecidable _
theorem impl_AreDepots (x : DLand) (l : List DDepot) (hx : x.cells.length <= 1048576) (hl : l.length <= 1048576) : SC Tryz.prog 265 [.ag x.ats, .at (.im 2 (l.map DDepot.row))] [] (.at (.v (.bool (decide (DepotsP x l))))) [] := by
 refine SC.of_V mixed Tryz.func265 (by kernel_rfl) rfl Tryz.results265 _ Tryz.ntmps265 (by simp) ?_
 simp -implicitDefEqProofs only [go_sem]
 refine T.loopW mixed [1, 2, 7, 8, 9] (fun mm vs es => ∃ (i : Nat), vs = [.at (.im 2 (l.map DDepot.row)), .at (.bx 100 0 0), .at (.im 2 (l.map DDepot.row)), .at (.v (.int .i64 l.length)), .at (.v (.int .i64 i))] /\ es = [.box 0 x.ats] /\ mm + i = l.length /\ EachTo (depP x l) l i) l.length ?_ ?_
 ·simp -implicitDefEqProofs only [go_sem]; exact ⟨0, by simp, by omega, each0⟩
 rintro n _ _ ⟨i, rfl, rfl, hn, hi⟩
 simp -implicitDefEqProofs only [go_sem]
 refine ⟨fun h => ?_, fun h => ?_⟩
 ·skip
  refine ⟨by omega, fun p hp => ?_⟩
  refine ⟨some [], by decide +kernel, ?_⟩
  simp -implicitDefEqProofs only [go_sem]
  have no : (depP x l i p -> False) -> false = decide (DepotsP x l) := fun hk => dec_f fun hj => eachNot hp hk hj.1
  have next : depP x l i p -> ∃ n', n' < n /\ ∃ i1 : Nat, IntKind.i64.wrap (i + 1) = i1 /\ n' + i1 = l.length /\ EachTo (depP x l) l i1 := fun hk =>
   ⟨n - 1, by omega, i + 1, by rw [wrap64 (by omega) (by omega)]; rfl, by omega, eachS hi hp hk⟩
  refine callXQ [] (impl_IsOpen x p.cell hx) (by simp -implicitDefEqProofs only [go_sem]) ?_
  simp -implicitDefEqProofs only [go_sem]
  rw [wrap64 (x := (i : Int) - 1) (by omega) (by omega), show ((i : Int) - 1).toNat = i - 1 by omega]
  refine ⟨fun k1 => ⟨fun h0 => ⟨by omega, fun q hq => ⟨fun k2 => ?_, fun k2 => no fun h => by have := h.2.2 (by omega) q hq; omega⟩⟩, fun h0 => ?_⟩, fun k1 => no fun h => k1 h.1⟩
  ·refine callXQ [] (impl_InRange p.food 1 10000) (by simp -implicitDefEqProofs only [go_sem]) ?_
   simp -implicitDefEqProofs only [go_sem]
   exact ⟨fun k3 => no fun h => k3 h.2.1, fun k3 => next ⟨k1, k3, fun _ q' hq' => by rw [same hq hq']; omega⟩⟩
  ·refine callXQ [] (impl_InRange p.food 1 10000) (by simp -implicitDefEqProofs only [go_sem]) ?_
   simp -implicitDefEqProofs only [go_sem]
   exact ⟨fun k3 => no fun h => k3 h.2.1, fun k3 => next ⟨k1, k3, fun h5 => absurd h5 (by omega)⟩⟩
 ·refine callX [] (impl_IsLand x hx) (by simp -implicitDefEqProofs only [go_sem]) ?_
  simp -implicitDefEqProofs only [go_sem]
  exact ⟨fun k => decide_eq_decide.2 ⟨fun h2 => ⟨eachEnd hi h, k, by omega⟩, fun h2 => by have := h2.2.2; omega⟩, fun k => dec_f fun h2 => k h2.2.1⟩
theorem spec_AreDepots (x : DLand) (l : List DDepot) (hx : x.cells.length <= 1048576) (hl : l.length <= 1048576) : SC Tryz.prog 295 [.ag x.ats, .at (.im 2 (l.map DDepot.row))] [] (.at (.v (.bool (decide (DepotsP x l))))) [] := by
 refine SC.of_V mixed Tryz.func295 (by kernel_rfl) rfl Tryz.results295 _ Tryz.ntmps295 (by simp) ?_
 simp -implicitDefEqProofs only [go_sem]
 refine T.loopW mixed [1, 2, 5] (fun mm vs es => ∃ (i : Nat), vs = [.at (.im 2 (l.map DDepot.row)), .at (.bx 100 0 0), .at (.v (.int .i64 i))] /\ es = [.box 0 x.ats] /\ mm + i = l.length /\ EachTo (depP x l) l i) l.length ?_ ?_
 ·simp -implicitDefEqProofs only [go_sem]; exact ⟨0, by simp, by omega, each0⟩
 rintro n _ _ ⟨i, rfl, rfl, hn, hi⟩
 simp -implicitDefEqProofs only [go_sem]
 refine ⟨fun h => ?_, fun h => ?_⟩
 ·skip
  refine ⟨some [], by decide +kernel, ?_⟩
  simp -implicitDefEqProofs only [go_sem]
  refine ⟨by omega, fun p hp => ?_⟩
  have no : (depP x l i p -> False) -> false = decide (DepotsP x l) := fun hk => dec_f fun hj => eachNot hp hk hj.1
  have next : depP x l i p -> ∃ n', n' < n /\ ∃ i1 : Nat, IntKind.i64.wrap (i + 1) = i1 /\ n' + i1 = l.length /\ EachTo (depP x l) l i1 := fun hk =>
   ⟨n - 1, by omega, i + 1, by rw [wrap64 (by omega) (by omega)]; rfl, by omega, eachS hi hp hk⟩
  refine callXQ [] (spec_IsOpen x p.cell hx) (by simp -implicitDefEqProofs only [go_sem]) ?_
  simp -implicitDefEqProofs only [go_sem]
  refine ⟨fun k1 => ⟨by omega, fun p2 hp2 => ?_⟩, fun k1 => no fun h => k1 h.1⟩
  rw [same hp hp2]
  refine callXQ [] (spec_l1In p.food 1 10000) (by simp -implicitDefEqProofs only [go_sem]) ?_
  simp -implicitDefEqProofs only [go_sem]
  rw [wrap64 (x := (i : Int) - 1) (by omega) (by omega), show ((i : Int) - 1).toNat = i - 1 by omega]
  refine ⟨fun k2 => ⟨fun h0 => ⟨by omega, fun q hq => ⟨by omega, fun p3 hp3 => ?_⟩⟩, fun h0 => next ⟨k1, k2, fun h5 => absurd h5 (by omega)⟩⟩, fun k2 => no fun h => k2 h.2.1⟩
  rw [same hp hp3]
  exact ⟨fun k3 => no fun h => by have := h.2.2 (by omega) q hq; omega, fun k3 => next ⟨k1, k2, fun _ q' hq' => by rw [same hq hq']; omega⟩⟩
 ·refine callX [] (spec_IsLand x hx) (by simp -implicitDefEqProofs only [go_sem]) ?_
  simp -implicitDefEqProofs only [go_sem]
  exact ⟨fun k => decide_eq_decide.2 ⟨fun h2 => ⟨eachEnd hi h, k, by omega⟩, fun h2 => by have := h2.2.2; omega⟩, fun k => dec_f fun h2 => k h2.2.1⟩
def memP (l : List DMember) (i : Nat) (d : DMember) : Prop := (1 <= d.id /\ d.id <= 99) /\ (0 <= d.strength /\ d.strength <= 100) /\ (1 <= d.need /\ d.need <= 10) /\ (0 < i -> ∀ q, l[i - 1]? = some q -> q.id < d.id)
def CrewP (l : List DMember) : Prop := Each (memP l) l /\ 1 <= l.length /\ l.length <= 8
noncomputable instance (l : List DMember) : Decidable (CrewP l) := Classical.propDecidable _
theorem impl_AreCrew (l : List DMember) (hl : l.length <= 1048576) : SC Tryz.prog 273 [.at (.im 4 (l.map DMember.row))] [] (.at (.v (.bool (decide (CrewP l))))) [] := by
 refine SC.of_V mixed Tryz.func273 (by kernel_rfl) rfl Tryz.results273 _ Tryz.ntmps273 (by simp) ?_
 simp -implicitDefEqProofs only [go_sem]
 refine T.loopW mixed [0, 5, 6, 7] (fun mm vs es => ∃ (i : Nat), vs = [.at (.im 4 (l.map DMember.row)), .at (.im 4 (l.map DMember.row)), .at (.v (.int .i64 l.length)), .at (.v (.int .i64 i))] /\ es = [] /\ mm + i = l.length /\ EachTo (memP l) l i) l.length ?_ ?_
 ·simp -implicitDefEqProofs only [go_sem]; exact ⟨0, by simp, by omega, each0⟩
 rintro n _ _ ⟨i, rfl, rfl, hn, hi⟩
 simp -implicitDefEqProofs only [go_sem]
 refine ⟨fun h => ?_, fun h => ?_⟩
 ·skip
  refine ⟨by omega, fun p hp => ?_⟩
  refine ⟨some [], by decide +kernel, ?_⟩
  simp -implicitDefEqProofs only [go_sem]
  have no : (memP l i p -> False) -> false = decide (CrewP l) := fun hk => dec_f fun hj => eachNot hp hk hj.1
  have next : memP l i p -> ∃ n', n' < n /\ ∃ i1 : Nat, IntKind.i64.wrap (i + 1) = i1 /\ n' + i1 = l.length /\ EachTo (memP l) l i1 := fun hk =>
   ⟨n - 1, by omega, i + 1, by rw [wrap64 (by omega) (by omega)]; rfl, by omega, eachS hi hp hk⟩
  refine callXQ [] (impl_InRange p.id 1 99) (by simp -implicitDefEqProofs only [go_sem]) ?_
  simp -implicitDefEqProofs only [go_sem]
  rw [wrap64 (x := (i : Int) - 1) (by omega) (by omega), show ((i : Int) - 1).toNat = i - 1 by omega]
  have fin : (1 <= p.id /\ p.id <= 99) -> (0 < i -> ∀ q, l[i - 1]? = some q -> q.id < p.id) -> ((0 <= p.strength /\ p.strength <= 100) -> (1 <= p.need /\ p.need <= 10) -> memP l i p) := fun a b c d => ⟨a, c, d, b⟩
  refine ⟨fun k1 => ⟨fun h0 => ⟨by omega, fun q hq => ⟨fun k2 => ?_, fun k2 => no fun h => by have := h.2.2.2 (by omega) q hq; omega⟩⟩, fun h0 => ?_⟩, fun k1 => no fun h => k1 h.1⟩
  ·refine callXQ [] (impl_InRange p.strength 0 100) (by simp -implicitDefEqProofs only [go_sem]) ?_
   simp -implicitDefEqProofs only [go_sem]
   refine ⟨fun k3 => ?_, fun k3 => no fun h => k3 h.2.1⟩
   refine callXQ [] (impl_InRange p.need 1 10) (by simp -implicitDefEqProofs only [go_sem]) ?_
   simp -implicitDefEqProofs only [go_sem]
   exact ⟨fun k4 => no fun h => k4 h.2.2.1, fun k4 => next (fin k1 (fun _ q' hq' => by rw [same hq hq']; omega) k3 k4)⟩
  ·refine callXQ [] (impl_InRange p.strength 0 100) (by simp -implicitDefEqProofs only [go_sem]) ?_
   simp -implicitDefEqProofs only [go_sem]
   refine ⟨fun k3 => ?_, fun k3 => no fun h => k3 h.2.1⟩
   refine callXQ [] (impl_InRange p.need 1 10) (by simp -implicitDefEqProofs only [go_sem]) ?_
   simp -implicitDefEqProofs only [go_sem]
   exact ⟨fun k4 => no fun h => k4 h.2.2.1, fun k4 => next (fin k1 (fun h5 => absurd h5 (by omega)) k3 k4)⟩
 ·refine callX [] (impl_InRange l.length 1 8) (by simp -implicitDefEqProofs only [go_sem]) ?_
  simp -implicitDefEqProofs only [go_sem]
  exact decide_eq_decide.2 ⟨fun h2 => ⟨eachEnd hi h, by omega, by omega⟩, fun h2 => by have := h2.2; omega⟩
theorem spec_AreCrew (l : List DMember) (hl : l.length <= 1048576) : SC Tryz.prog 246 [.at (.im 4 (l.map DMember.row))] [] (.at (.v (.bool (decide (CrewP l))))) [] := by
 refine SC.of_V mixed Tryz.func246 (by kernel_rfl) rfl Tryz.results246 _ Tryz.ntmps246 (by simp) ?_
 simp -implicitDefEqProofs only [go_sem]
 refine T.loopW mixed [0, 3] (fun mm vs es => ∃ (i : Nat), vs = [.at (.im 4 (l.map DMember.row)), .at (.v (.int .i64 i))] /\ es = [] /\ mm + i = l.length /\ EachTo (memP l) l i) l.length ?_ ?_
 ·simp -implicitDefEqProofs only [go_sem]; exact ⟨0, by simp, by omega, each0⟩
 rintro n _ _ ⟨i, rfl, rfl, hn, hi⟩
 simp -implicitDefEqProofs only [go_sem]
 refine ⟨fun h => ?_, fun h => ?_⟩
 ·skip
  refine ⟨some [], by decide +kernel, ?_⟩
  simp -implicitDefEqProofs only [go_sem]
  refine ⟨by omega, fun p hp => ?_⟩
  have no : (memP l i p -> False) -> false = decide (CrewP l) := fun hk => dec_f fun hj => eachNot hp hk hj.1
  have next : memP l i p -> ∃ n', n' < n /\ ∃ i1 : Nat, IntKind.i64.wrap (i + 1) = i1 /\ n' + i1 = l.length /\ EachTo (memP l) l i1 := fun hk =>
   ⟨n - 1, by omega, i + 1, by rw [wrap64 (by omega) (by omega)]; rfl, by omega, eachS hi hp hk⟩
  refine callXQ [] (spec_l1In p.id 1 99) (by simp -implicitDefEqProofs only [go_sem]) ?_
  simp -implicitDefEqProofs only [go_sem]
  refine ⟨fun k1 => ⟨by omega, fun p2 hp2 => ?_⟩, fun k1 => no fun h => k1 h.1⟩
  rw [same hp hp2]
  refine callXQ [] (spec_l1In p.strength 0 100) (by simp -implicitDefEqProofs only [go_sem]) ?_
  simp -implicitDefEqProofs only [go_sem]
  refine ⟨fun k2 => ⟨by omega, fun p3 hp3 => ?_⟩, fun k2 => no fun h => k2 h.2.1⟩
  rw [same hp hp3]
  refine callXQ [] (spec_l1In p.need 1 10) (by simp -implicitDefEqProofs only [go_sem]) ?_
  simp -implicitDefEqProofs only [go_sem]
  rw [wrap64 (x := (i : Int) - 1) (by omega) (by omega), show ((i : Int) - 1).toNat = i - 1 by omega]
  refine ⟨fun k3 => ⟨fun h0 => ⟨by omega, fun q hq => ⟨by omega, fun p4 hp4 => ?_⟩⟩, fun h0 => next ⟨k1, k2, k3, fun h5 => absurd h5 (by omega)⟩⟩, fun k3 => no fun h => k3 h.2.2.1⟩
  rw [same hp hp4]
  exact ⟨fun k4 => no fun h => by have := h.2.2.2 (by omega) q hq; omega, fun k4 => next ⟨k1, k2, k3, fun _ q' hq' => by rw [same hq hq']; omega⟩⟩
 ·refine callX [] (spec_l1In l.length 1 8) (by simp -implicitDefEqProofs only [go_sem]) ?_
  simp -implicitDefEqProofs only [go_sem]
  exact decide_eq_decide.2 ⟨fun h2 => ⟨eachEnd hi h, by omega, by omega⟩, fun h2 => by have := h2.2; omega⟩
def PartyP (x : DLand) (p : DParty) : Prop := x.Open p.at_ /\ CrewP p.crew /\ (0 <= p.food /\ p.food <= 10000) /\ p.past.length <= 10
noncomputable instance (x : DLand) (p : DParty) : Decidable (PartyP x p) := Classical.propDecidable _
theorem impl_IsParty (x : DLand) (p : DParty) (hx : x.cells.length <= 1048576) (hc : p.crew.length <= 1048576) : SC Tryz.prog 190 [.ag x.ats, .ag p.ats] [] (.at (.v (.bool (decide (PartyP x p))))) [] := by
 refine SC.of_V mixed Tryz.func190 (by kernel_rfl) rfl Tryz.results190 _ Tryz.ntmps190 (by simp) ?_
 simp -implicitDefEqProofs only [go_sem]
 refine callX [] (impl_IsOpen x p.at_ hx) (by simp -implicitDefEqProofs only [go_sem]) ?_
 simp -implicitDefEqProofs only [go_sem]
 refine ⟨fun k1 => ?_, fun k1 => dec_f fun h => k1 h.1⟩
 refine callX [] (impl_AreCrew p.crew hc) (by simp -implicitDefEqProofs only [go_sem]) ?_
 simp -implicitDefEqProofs only [go_sem]
 refine ⟨fun k2 => ?_, fun k2 => dec_f fun h => k2 h.2.1⟩
 refine callX [] (impl_InRange p.food 0 10000) (by simp -implicitDefEqProofs only [go_sem]) ?_
 simp -implicitDefEqProofs only [go_sem]
 refine ⟨fun k3 => ?_, fun k3 => dec_f fun h => k3 h.2.2.1⟩
 exact decide_eq_decide.2 ⟨fun h => ⟨k1, k2, k3, by omega⟩, fun h => by have := h.2.2.2; omega⟩
theorem spec_IsParty (x : DLand) (p : DParty) (hx : x.cells.length <= 1048576) (hc : p.crew.length <= 1048576) : SC Tryz.prog 235 [.ag x.ats, .ag p.ats] [] (.at (.v (.bool (decide (PartyP x p))))) [] := by
 refine SC.of_V mixed Tryz.func235 (by kernel_rfl) rfl Tryz.results235 _ Tryz.ntmps235 (by simp) ?_
 simp -implicitDefEqProofs only [go_sem]
 refine callX [] (spec_IsOpen x p.at_ hx) (by simp -implicitDefEqProofs only [go_sem]) ?_
 simp -implicitDefEqProofs only [go_sem]
 refine ⟨fun k1 => ?_, fun k1 => dec_f fun h => k1 h.1⟩
 refine callX [] (spec_AreCrew p.crew hc) (by simp -implicitDefEqProofs only [go_sem]) ?_
 simp -implicitDefEqProofs only [go_sem]
 refine ⟨fun k2 => ?_, fun k2 => dec_f fun h => k2 h.2.1⟩
 refine callX [] (spec_l1In p.food 0 10000) (by simp -implicitDefEqProofs only [go_sem]) ?_
 simp -implicitDefEqProofs only [go_sem]
 refine ⟨fun k3 => ?_, fun k3 => dec_f fun h => k3 h.2.2.1⟩
 exact decide_eq_decide.2 ⟨fun h => ⟨k1, k2, k3, by omega⟩, fun h => by have := h.2.2.2; omega⟩
end Go.Abs
