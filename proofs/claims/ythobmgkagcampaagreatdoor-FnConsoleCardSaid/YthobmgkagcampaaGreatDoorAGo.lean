/- Going on and waiting: whether one may. -/
import Derived.Test.YthobmgkagcampaaGreatDoorADay
namespace Go.Abs
open Go.RowKit Go.Proofs
set_option linter.all false
set_option maxRecDepth 100000
noncomputable def nearZ (x : DLand) (n : Int) : List Int := if x.Cell n then x.near n else []
theorem nearZ_len (x : DLand) (n : Int) : (nearZ x n).length <= 4 := by
 unfold nearZ; by_cases h : x.Cell n
 ·rw [if_pos h]; exact DLand.near_len
 ·rw [if_neg h]; simp
theorem spec_Near (x : DLand) (n : Int) (hl : x.cells.length <= 1048576) : SC Tryz.prog 170 [.ag x.ats, .at (.v (.int .i64 n))] [] (.at (.fr 1 ((nearZ x n).map intRow))) [] := by
 refine SC.of_W mixed Tryz.func170 (by kernel_rfl) rfl Tryz.results170 _ Tryz.ntmps170 (by simp) ?_
 simp -implicitDefEqProofs only [go_sem]
 refine callX [] (spec_IsCell x n hl) (by simp -implicitDefEqProofs only [go_sem]) ?_
 simp -implicitDefEqProofs only [go_sem]
 refine ⟨fun h => by rw [nearZ, if_neg h]; exact ⟨rfl, rfl⟩, fun h => ?_⟩
 refine callX [] (spec_l4Near x n h hl) (by simp -implicitDefEqProofs only [go_sem]) ?_
 simp -implicitDefEqProofs only [go_sem]
 rw [nearZ, if_pos h]; exact ⟨rfl, rfl⟩
theorem impl_NearZ (x : DLand) (n : Int) (hl : x.cells.length <= 1048576) : SC Tryz.prog 175 [.ag x.ats, .at (.v (.int .i64 n))] [] (.at (.fr 1 ((nearZ x n).map intRow))) [] := by
 by_cases h : x.Cell n
 ·rw [nearZ, if_pos h]; exact impl_Near x n h hl
 ·rw [nearZ, if_neg h]
  refine SC.of_WJ mixed Tryz.func175 (by kernel_rfl) rfl Tryz.results175 _ Tryz.ntmps175 (by simp) ?_
  simp -implicitDefEqProofs only [go_sem]
  refine T.stepJ mixed ?_
  simp -implicitDefEqProofs only [go_sem]
  refine callX [] (impl_IsCell x n hl) (by simp -implicitDefEqProofs only [go_sem]) ?_
  simp -implicitDefEqProofs only [go_sem]
  exact fun k => absurd k h
def placeF (n : Int) : List Int -> Int -> Int
 | [], _ => -1
 | v :: l, k => if v = n then k else placeF n l (k + 1)
theorem placeF_pos {n : Int} : ∀ {l : List Int} {k : Int}, 0 <= k -> (0 <= placeF n l k ↔ n ∈ l) := by
 intro l
 induction l with
 | nil => intro k h; simp [placeF]
 | cons v l ih =>
  intro k h
  by_cases e : v = n
  ·rw [placeF, if_pos e]; simp [e, h]
  ·rw [placeF, if_neg e, ih (by omega)]; simp [Ne.symm e]
theorem impl_placeOf (l : List Int) (n : Int) (hl : l.length <= 1048576) : SC Tryz.prog 300 [.at (.im 1 (l.map intRow)), .at (.v (.int .i64 n))] [] (.at (.v (.int .i64 (placeF n l 0)))) [] := by
 refine SC.of_V mixed Tryz.func300 (by kernel_rfl) rfl Tryz.results300 _ Tryz.ntmps300 (by simp) ?_
 simp -implicitDefEqProofs only [go_sem]
 refine T.loopW mixed [1, 7, 8, 9] (fun mm vs es => ∃ (i : Nat), vs = [.at (.v (.int .i64 n)), .at (.im 1 (l.map intRow)), .at (.v (.int .i64 l.length)), .at (.v (.int .i64 i))] /\ es = [] /\ mm + i = l.length /\ placeF n l 0 = placeF n (l.drop i) i) l.length ?_ ?_
 ·simp -implicitDefEqProofs only [go_sem]; exact ⟨0, rfl, by omega, rfl⟩
 rintro q _ _ ⟨i, rfl, rfl, hn, hf⟩
 simp -implicitDefEqProofs only [go_sem]
 refine ⟨fun h => ⟨by omega, fun d hd => ⟨fun e => by rw [hf, drop_get hd, placeF, if_pos e], fun e => ?_⟩⟩, fun h => by rw [hf, drop_all h]; rfl⟩
 rw [wrap64 (by omega) (by omega)]
 exact ⟨q - 1, by omega, i + 1, rfl, by omega, by rw [hf, drop_get hd, placeF, if_neg e]; rfl⟩
theorem impl_has (l : List Int) (n : Int) (hl : l.length <= 1048576) : SC Tryz.prog 259 [.at (.im 1 (l.map intRow)), .at (.v (.int .i64 n))] [] (.at (.v (.bool (decide (n ∈ l))))) [] := by
 refine SC.of_V mixed Tryz.func259 (by kernel_rfl) rfl Tryz.results259 _ Tryz.ntmps259 (by simp) ?_
 simp -implicitDefEqProofs only [go_sem]
 refine callX [] (impl_placeOf l n hl) (by simp -implicitDefEqProofs only [go_sem]) ?_
 simp -implicitDefEqProofs only [go_sem]
 exact decide_eq_decide.2 (placeF_pos (Int.le_refl 0))
noncomputable def dayZ (p : DParty) (to : Int) (s : Bool) : DParty := { eatZ p with at_ := to, past := addDay p.past s }
theorem spec_l11Day (p : DParty) (to : Int) (s : Bool) (h1 : p.crew.length <= 1048576) (h2 : p.past.length <= 1048575) (hf : I64 p.food) : SC Tryz.prog 255 [.ag p.ats, .at (.v (.int .i64 to)), .at (.v (.bool s))] [] (.tp [.ag (dayZ p to s).frs, .at (.v (.bool (decide (eatP p))))]) [] := by
 refine SC.of_W mixed Tryz.func255 (by kernel_rfl) rfl Tryz.results255 _ Tryz.ntmps255 (by simp) ?_
 simp -implicitDefEqProofs only [go_sem]
 refine callX [] (spec_Eat p h1 (by omega) hf) (by simp -implicitDefEqProofs only [go_sem]) ?_
 simp -implicitDefEqProofs only [go_sem]
 refine callX [] (spec_AddDay p.past s h2) (by simp -implicitDefEqProofs only [go_sem]) ?_
 simp -implicitDefEqProofs only [go_sem]
 exact ⟨⟨rfl, rfl, rfl, rfl⟩, rfl, rfl⟩
theorem impl_passed (p : DParty) (to : Int) (s : Bool) (h1 : p.crew.length <= 1048576) (h2 : p.past.length <= 1048575) (hf : I64 p.food) : SC Tryz.prog 281 [.ag p.ats, .at (.v (.int .i64 to)), .at (.v (.bool s))] [] (.tp [.ag (if eatP p then dayZ p to s else p).frs, .at (.v (.bool (decide (eatP p))))]) [] := by
 refine SC.of_W mixed Tryz.func281 (by kernel_rfl) rfl Tryz.results281 _ Tryz.ntmps281 (by simp) ?_
 simp -implicitDefEqProofs only [go_sem]
 refine callX [] (impl_Eat p h1 (by omega) hf) (by simp -implicitDefEqProofs only [go_sem]) ?_
 simp -implicitDefEqProofs only [go_sem]
 refine ⟨fun h => ?_, fun h => ?_⟩
 ·have e : eatZ p = p := if_neg h
  rw [if_neg h, e]
  exact ⟨⟨⟨rfl, rfl, rfl, rfl⟩, dec_f h⟩, rfl, rfl⟩
 ·refine callX [] (impl_AddDay p.past s h2) (by simp -implicitDefEqProofs only [go_sem]) ?_
  simp -implicitDefEqProofs only [go_sem]
  rw [if_pos h]
  exact ⟨⟨⟨rfl, rfl, rfl, rfl⟩, dec_t h⟩, rfl, rfl⟩
def safeP (x : DLand) (base : Int) (r : DRule) (l : List DDepot) (p : DParty) (to : Int) (s : Bool) : Prop := eatP p /\ backP x base r l (dayZ p to s)
noncomputable instance (x : DLand) (base : Int) (r : DRule) (l : List DDepot) (p : DParty) (to : Int) (s : Bool) : Decidable (safeP x base r l p to s) := Classical.propDecidable _
theorem dayZ_crew (p : DParty) (to : Int) (s : Bool) : (dayZ p to s).crew = p.crew := (eat_crew p).1
theorem spec_l11Safe (x : DLand) (base : Int) (r : DRule) (l : List DDepot) (p : DParty) (to : Int) (s : Bool) (hx : x.cells.length <= 1048576) (hl : l.length <= 1048576) (hc : p.crew.length <= 1048576) (hp : p.past.length <= 1048575) (hf : I64 p.food) :
  SC Tryz.prog 293 [.ag x.ats, .at (.v (.int .i64 base)), .ag r.ats, .at (.im 2 (l.map DDepot.row)), .ag p.ats, .at (.v (.int .i64 to)), .at (.v (.bool s))] [] (.at (.v (.bool (decide (safeP x base r l p to s))))) [] := by
 refine SC.of_V mixed Tryz.func293 (by kernel_rfl) rfl Tryz.results293 _ Tryz.ntmps293 (by simp) ?_
 simp -implicitDefEqProofs only [go_sem]
 refine callX [] (spec_l11Day p to s hc hp hf) (by simp -implicitDefEqProofs only [go_sem]) ?_
 simp -implicitDefEqProofs only [go_sem]
 refine ⟨fun h => ?_, fun h => dec_f fun h2 => h h2.1⟩
 refine callX [1336, 1337] (spec_CanReturn x base r l (dayZ p to s) hx hl (by rw [dayZ_crew]; exact hc)) (by simp -implicitDefEqProofs only [go_sem]) ?_
 simp -implicitDefEqProofs only [go_sem]
 exact decide_eq_decide.2 ⟨fun h2 => ⟨h, h2⟩, fun h2 => h2.2⟩
theorem impl_mayBe (x : DLand) (base : Int) (r : DRule) (l : List DDepot) (p : DParty) (to : Int) (s : Bool) (hx : x.cells.length <= 1048576) (hl : l.length <= 1048576) (hc : p.crew.length <= 1048576) (hp : p.past.length <= 1048575) (hf : I64 p.food) :
  SC Tryz.prog 260 [.ag x.ats, .at (.v (.int .i64 base)), .ag r.ats, .at (.im 2 (l.map DDepot.row)), .ag p.ats, .at (.v (.int .i64 to)), .at (.v (.bool s))] [] (.at (.v (.bool (decide (safeP x base r l p to s))))) [] := by
 refine SC.of_V mixed Tryz.func260 (by kernel_rfl) rfl Tryz.results260 _ Tryz.ntmps260 (by simp) ?_
 simp -implicitDefEqProofs only [go_sem]
 refine callX [] (impl_passed p to s hc hp hf) (by simp -implicitDefEqProofs only [go_sem]) ?_
 simp -implicitDefEqProofs only [go_sem]
 refine ⟨fun h => ?_, fun h => dec_f fun h2 => h h2.1⟩
 rw [if_pos h]
 refine callX [1336, 1337] (impl_CanReturn x base r l (dayZ p to s) hx hl (by rw [dayZ_crew]; exact hc)) (by simp -implicitDefEqProofs only [go_sem]) ?_
 simp -implicitDefEqProofs only [go_sem]
 exact decide_eq_decide.2 ⟨fun h2 => ⟨h, h2⟩, fun h2 => h2.2⟩
def mayGoP (x : DLand) (base : Int) (r : DRule) (l : List DDepot) (p : DParty) (to : Int) : Prop := (to ∈ nearZ x p.at_ /\ backP x base r l p) /\ safeP x base r l p to false /\ (mayP r p.past -> safeP x base r l p p.at_ true)
noncomputable instance (x : DLand) (base : Int) (r : DRule) (l : List DDepot) (p : DParty) (to : Int) : Decidable (mayGoP x base r l p to) := Classical.propDecidable _
def mayWaitP (x : DLand) (base : Int) (r : DRule) (l : List DDepot) (p : DParty) : Prop := backP x base r l p /\ safeP x base r l p p.at_ false /\ (mayP r p.past -> safeP x base r l p p.at_ true)
noncomputable instance (x : DLand) (base : Int) (r : DRule) (l : List DDepot) (p : DParty) : Decidable (mayWaitP x base r l p) := Classical.propDecidable _
theorem spec_MayGo (x : DLand) (base : Int) (r : DRule) (l : List DDepot) (p : DParty) (to : Int) (hx : x.cells.length <= 1048576) (hl : l.length <= 1048576) (hc : p.crew.length <= 1048576) (hp : p.past.length <= 1048576) :
  SC Tryz.prog 225 [.ag x.ats, .at (.v (.int .i64 base)), .ag r.ats, .at (.im 2 (l.map DDepot.row)), .ag p.ats, .at (.v (.int .i64 to))] [] (.at (.v (.bool (decide (mayGoP x base r l p to))))) [] := by
 refine SC.of_V mixed Tryz.func225 (by kernel_rfl) rfl Tryz.results225 _ Tryz.ntmps225 (by simp) ?_
 simp -implicitDefEqProofs only [go_sem]
 refine callX [] (spec_Near x p.at_ hx) (by simp -implicitDefEqProofs only [go_sem]) ?_
 simp -implicitDefEqProofs only [go_sem]
 have hnl := nearZ_len x p.at_
 refine T.loopW mixed [1, 3, 5, 6, 8, 10, 13, 14, 15] (fun mm vs es => ∃ (i : Nat), vs = [.at (.v (.int .i64 base)), .at (.im 2 (l.map DDepot.row)), .at (.v (.int .i64 to)), .at (.bx 100 0 0), .at (.bx 101 0 0), .at (.bx 102 0 0), .at (.v (.bool (decide (to ∈ (nearZ x p.at_).take i)))), .at (.ow 103 0 1 ((nearZ x p.at_).length)), .at (.v (.int .i64 i))] /\ es = [.box 0 x.ats, .box 0 r.ats, .box 0 p.ats, .arr 0 1 ((nearZ x p.at_).map intRow)] /\ mm + i = (nearZ x p.at_).length) ((nearZ x p.at_).length) ?_ ?_
 ·simp -implicitDefEqProofs only [go_sem]
  exact ⟨0, ⟨by simp, rfl⟩, by omega⟩
 rintro q _ _ ⟨i, rfl, rfl, hn⟩
 simp -implicitDefEqProofs only [go_sem]
 refine ⟨fun h => ⟨fun h1 => ⟨by omega, by omega, fun v hv => ⟨q - 1, by omega, i + 1, ⟨decide_eq_decide.2 ?_, by rw [wrap64 (by omega) (by omega)]; rfl⟩, by omega⟩⟩, fun h1 => ⟨q - 1, by omega, i + 1, ⟨dec_t ?_, by rw [wrap64 (by omega) (by omega)]; rfl⟩, by omega⟩⟩, fun h => ?_⟩
 ·rw [List.take_add_one, hv]; simp [h1, eq_comm]
 ·rw [List.take_add_one]; simp [h1]
 rw [List.take_of_length_le (by omega)]
 refine ⟨fun h1 => ?_, fun h1 => dec_f fun h2 => h1 h2.1.1⟩
 refine callX [] (spec_CanReturn x base r l p hx hl hc) (by simp -implicitDefEqProofs only [go_sem]) ?_
 simp -implicitDefEqProofs only [go_sem]
 refine ⟨fun h2 => ?_, fun h2 => dec_f fun h => h2 h.1.2⟩
 have hf := h2.food
 have hi : I64 p.food := by unfold I64; omega
 refine callX [] (spec_l11Safe x base r l p to false hx hl hc (by have := h2.past; omega) hi) (by simp -implicitDefEqProofs only [go_sem]) ?_
 simp -implicitDefEqProofs only [go_sem]
 refine ⟨fun h3 => ?_, fun h3 => dec_f fun h => h3 h.2.1⟩
 refine callX [] (spec_MayStorm r p.past (by omega)) (by simp -implicitDefEqProofs only [go_sem]) ?_
 simp -implicitDefEqProofs only [go_sem]
 refine ⟨fun h4 => ?_, fun h4 => ?_⟩
 ·refine callX [] (spec_l11Safe x base r l p p.at_ true hx hl hc (by have := h2.past; omega) hi) (by simp -implicitDefEqProofs only [go_sem]) ?_
  simp -implicitDefEqProofs only [go_sem]
  exact decide_eq_decide.2 ⟨fun h5 => ⟨⟨h1, h2⟩, h3, fun _ => h5⟩, fun h5 => h5.2.2 h4⟩
 ·exact dec_t ⟨⟨h1, h2⟩, h3, fun h5 => absurd h5 h4⟩
theorem impl_MayGo (x : DLand) (base : Int) (r : DRule) (l : List DDepot) (p : DParty) (to : Int) (hx : x.cells.length <= 1048576) (hl : l.length <= 1048576) (hc : p.crew.length <= 1048576) (hp : p.past.length <= 1048576) :
  SC Tryz.prog 176 [.ag x.ats, .at (.v (.int .i64 base)), .ag r.ats, .at (.im 2 (l.map DDepot.row)), .ag p.ats, .at (.v (.int .i64 to))] [] (.at (.v (.bool (decide (mayGoP x base r l p to))))) [] := by
 refine SC.of_V mixed Tryz.func176 (by kernel_rfl) rfl Tryz.results176 _ Tryz.ntmps176 (by simp) ?_
 simp -implicitDefEqProofs only [go_sem]
 refine callX [] (impl_CanReturn x base r l p hx hl hc) (by simp -implicitDefEqProofs only [go_sem]) ?_
 simp -implicitDefEqProofs only [go_sem]
 refine ⟨fun h2 => ?_, fun h2 => dec_f fun h => h2 h.1.2⟩
 have hf := h2.food
 have hi : I64 p.food := by unfold I64; omega
 refine callX [] (impl_NearZ x p.at_ hx) (by simp -implicitDefEqProofs only [go_sem]) ?_
 simp -implicitDefEqProofs only [go_sem]
 have hnl := nearZ_len x p.at_
 refine callX [1384] (impl_has (nearZ x p.at_) to (by omega)) (by simp -implicitDefEqProofs only [go_sem]) ?_
 simp -implicitDefEqProofs only [go_sem]
 refine ⟨fun h1 => ?_, fun h1 => dec_f fun h => h1 h.1.1⟩
 refine callX [] (impl_mayBe x base r l p to false hx hl hc (by have := h2.past; omega) hi) (by simp -implicitDefEqProofs only [go_sem]) ?_
 simp -implicitDefEqProofs only [go_sem]
 refine ⟨fun h3 => dec_f fun h => h3 h.2.1, fun h3 => ?_⟩
 refine callX [] (impl_MayStorm r p.past (by omega)) (by simp -implicitDefEqProofs only [go_sem]) ?_
 simp -implicitDefEqProofs only [go_sem]
 refine ⟨fun h4 => ?_, fun h4 => ?_⟩
 ·refine callX [] (impl_mayBe x base r l p p.at_ true hx hl hc (by have := h2.past; omega) hi) (by simp -implicitDefEqProofs only [go_sem]) ?_
  simp -implicitDefEqProofs only [go_sem]
  exact decide_eq_decide.2 ⟨fun h5 => ⟨⟨h1, h2⟩, h3, fun _ => h5⟩, fun h5 => h5.2.2 h4⟩
 ·exact dec_t ⟨⟨h1, h2⟩, h3, fun h5 => absurd h5 h4⟩
theorem spec_MayWait (x : DLand) (base : Int) (r : DRule) (l : List DDepot) (p : DParty) (hx : x.cells.length <= 1048576) (hl : l.length <= 1048576) (hc : p.crew.length <= 1048576) (hp : p.past.length <= 1048576) :
  SC Tryz.prog 254 [.ag x.ats, .at (.v (.int .i64 base)), .ag r.ats, .at (.im 2 (l.map DDepot.row)), .ag p.ats] [] (.at (.v (.bool (decide (mayWaitP x base r l p))))) [] := by
 refine SC.of_V mixed Tryz.func254 (by kernel_rfl) rfl Tryz.results254 _ Tryz.ntmps254 (by simp) ?_
 simp -implicitDefEqProofs only [go_sem]
 refine callX [] (spec_CanReturn x base r l p hx hl hc) (by simp -implicitDefEqProofs only [go_sem]) ?_
 simp -implicitDefEqProofs only [go_sem]
 refine ⟨fun h2 => ?_, fun h2 => dec_f fun h => h2 h.1⟩
 have hf := h2.food
 have hi : I64 p.food := by unfold I64; omega
 refine callX [] (spec_l11Safe x base r l p p.at_ false hx hl hc (by have := h2.past; omega) hi) (by simp -implicitDefEqProofs only [go_sem]) ?_
 simp -implicitDefEqProofs only [go_sem]
 refine ⟨fun h3 => ?_, fun h3 => dec_f fun h => h3 h.2.1⟩
 refine callX [] (spec_MayStorm r p.past (by omega)) (by simp -implicitDefEqProofs only [go_sem]) ?_
 simp -implicitDefEqProofs only [go_sem]
 refine ⟨fun h4 => ?_, fun h4 => ?_⟩
 ·refine callX [] (spec_l11Safe x base r l p p.at_ true hx hl hc (by have := h2.past; omega) hi) (by simp -implicitDefEqProofs only [go_sem]) ?_
  simp -implicitDefEqProofs only [go_sem]
  exact decide_eq_decide.2 ⟨fun h5 => ⟨h2, h3, fun _ => h5⟩, fun h5 => h5.2.2 h4⟩
 ·exact dec_t ⟨h2, h3, fun h5 => absurd h5 h4⟩
theorem impl_MayWait (x : DLand) (base : Int) (r : DRule) (l : List DDepot) (p : DParty) (hx : x.cells.length <= 1048576) (hl : l.length <= 1048576) (hc : p.crew.length <= 1048576) (hp : p.past.length <= 1048576) :
  SC Tryz.prog 283 [.ag x.ats, .at (.v (.int .i64 base)), .ag r.ats, .at (.im 2 (l.map DDepot.row)), .ag p.ats] [] (.at (.v (.bool (decide (mayWaitP x base r l p))))) [] := by
 refine SC.of_V mixed Tryz.func283 (by kernel_rfl) rfl Tryz.results283 _ Tryz.ntmps283 (by simp) ?_
 simp -implicitDefEqProofs only [go_sem]
 refine callX [] (impl_CanReturn x base r l p hx hl hc) (by simp -implicitDefEqProofs only [go_sem]) ?_
 simp -implicitDefEqProofs only [go_sem]
 refine ⟨fun h2 => ?_, fun h2 => dec_f fun h => h2 h.1⟩
 have hf := h2.food
 have hi : I64 p.food := by unfold I64; omega
 refine callX [] (impl_mayBe x base r l p p.at_ false hx hl hc (by have := h2.past; omega) hi) (by simp -implicitDefEqProofs only [go_sem]) ?_
 simp -implicitDefEqProofs only [go_sem]
 refine ⟨fun h3 => ?_, fun h3 => dec_f fun h => h3 h.2.1⟩
 refine callX [] (impl_MayStorm r p.past (by omega)) (by simp -implicitDefEqProofs only [go_sem]) ?_
 simp -implicitDefEqProofs only [go_sem]
 refine ⟨fun h4 => ?_, fun h4 => ?_⟩
 ·refine callX [] (impl_mayBe x base r l p p.at_ true hx hl hc (by have := h2.past; omega) hi) (by simp -implicitDefEqProofs only [go_sem]) ?_
  simp -implicitDefEqProofs only [go_sem]
  exact decide_eq_decide.2 ⟨fun h5 => ⟨h2, h3, fun _ => h5⟩, fun h5 => h5.2.2 h4⟩
 ·exact dec_t ⟨h2, h3, fun h5 => absurd h5 h4⟩
def goStepP (x : DLand) (base : Int) (r : DRule) (l : List DDepot) (p : DParty) (to : Int) (s : Bool) : Prop := mayGoP x base r l p to /\ (s = true -> mayP r p.past)
noncomputable instance (x : DLand) (base : Int) (r : DRule) (l : List DDepot) (p : DParty) (to : Int) (s : Bool) : Decidable (goStepP x base r l p to s) := Classical.propDecidable _
noncomputable def goStepZ (x : DLand) (base : Int) (r : DRule) (l : List DDepot) (p : DParty) (to : Int) (s : Bool) : DParty := if goStepP x base r l p to s then dayZ p (if s = true then p.at_ else to) s else p
theorem goStepZ_crew {x : DLand} {base : Int} {r : DRule} {l : List DDepot} {p : DParty} {to : Int} {s : Bool} : (goStepZ x base r l p to s).crew = p.crew := by
 by_cases h : goStepP x base r l p to s
 ·rw [goStepZ, if_pos h]; exact dayZ_crew _ _ _
 ·rw [goStepZ, if_neg h]
theorem goStepZ_past {x : DLand} {base : Int} {r : DRule} {l : List DDepot} {p : DParty} {to : Int} {s : Bool} {N : Nat} (hN : p.past.length <= N) (h10 : 10 <= N) : (goStepZ x base r l p to s).past.length <= N := by
 by_cases h : goStepP x base r l p to s
 ·rw [goStepZ, if_pos h]; exact Nat.le_trans (addDay_len _ _) h10
 ·rw [goStepZ, if_neg h]; exact hN
theorem goStepZ_c {x : DLand} {base : Int} {r : DRule} {l : List DDepot} {p : DParty} {to : Int} {s : Bool} {N : Nat} (hN : p.crew.length <= N) : (goStepZ x base r l p to s).crew.length <= N := by rw [goStepZ_crew]; exact hN
theorem spec_GoStep (x : DLand) (base : Int) (r : DRule) (l : List DDepot) (p : DParty) (to : Int) (s : Bool) (hx : x.cells.length <= 1048576) (hl : l.length <= 1048576) (hc : p.crew.length <= 1048576) (hp : p.past.length <= 1048576) :
  SC Tryz.prog 169 [.ag x.ats, .at (.v (.int .i64 base)), .ag r.ats, .at (.im 2 (l.map DDepot.row)), .ag p.ats, .at (.v (.int .i64 to)), .at (.v (.bool s))] [] (.tp [.ag (goStepZ x base r l p to s).frs, .at (.v (.bool (decide (goStepP x base r l p to s))))]) [] := by
 cases s
 ·refine SC.of_W mixed Tryz.func169 (by kernel_rfl) rfl Tryz.results169 _ Tryz.ntmps169 (by simp) ?_
  simp -implicitDefEqProofs only [go_sem]
  refine callX [] (spec_MayGo x base r l p to hx hl hc hp) (by simp -implicitDefEqProofs only [go_sem]) ?_
  simp -implicitDefEqProofs only [go_sem]
  refine ⟨fun h1 => ?_, fun h1 => ?_⟩
  ·have e : goStepP x base r l p to false := ⟨h1, fun h => by cases h⟩
   have hf := h1.1.2.food
   have hi : I64 p.food := by unfold I64; omega
   refine callX [] (spec_l11Day p to false hc (by have := h1.1.2.past; omega) hi) (by simp -implicitDefEqProofs only [go_sem]) ?_
   simp -implicitDefEqProofs only [go_sem]
   have he : eatP p := h1.2.1.1
   rw [goStepZ, if_pos e]; exact ⟨⟨⟨rfl, rfl, rfl, rfl⟩, decide_eq_decide.2 ⟨fun _ => e, fun _ => he⟩⟩, rfl, rfl⟩
  ·refine callX [] (spec_l9Copy p hc (by omega)) (by simp -implicitDefEqProofs only [go_sem]) ?_
   simp -implicitDefEqProofs only [go_sem]
   have e : ¬ goStepP x base r l p to false := fun h => h1 h.1
   rw [goStepZ, if_neg e]; exact ⟨⟨⟨rfl, rfl, rfl, rfl⟩, dec_f e⟩, rfl, rfl⟩
 ·refine SC.of_W mixed Tryz.func169 (by kernel_rfl) rfl Tryz.results169 _ Tryz.ntmps169 (by simp) ?_
  simp -implicitDefEqProofs only [go_sem]
  refine callX [] (spec_MayGo x base r l p to hx hl hc hp) (by simp -implicitDefEqProofs only [go_sem]) ?_
  simp -implicitDefEqProofs only [go_sem]
  refine ⟨fun h1 => ?_, fun h1 => ?_⟩
  ·refine callX [] (spec_MayStorm r p.past (by omega)) (by simp -implicitDefEqProofs only [go_sem]) ?_
   simp -implicitDefEqProofs only [go_sem]
   refine ⟨fun h2 => ?_, fun h2 => ?_⟩
   ·refine callX [] (spec_l9Copy p hc (by omega)) (by simp -implicitDefEqProofs only [go_sem]) ?_
    simp -implicitDefEqProofs only [go_sem]
    have e : ¬ goStepP x base r l p to true := fun h => h2 (h.2 rfl)
    rw [goStepZ, if_neg e]; exact ⟨⟨⟨rfl, rfl, rfl, rfl⟩, dec_f e⟩, rfl, rfl⟩
   ·have e : goStepP x base r l p to true := ⟨h1, fun _ => h2⟩
    have hf := h1.1.2.food
    have hi : I64 p.food := by unfold I64; omega
    refine callX [] (spec_l11Day p p.at_ true hc (by have := h1.1.2.past; omega) hi) (by simp -implicitDefEqProofs only [go_sem]) ?_
    simp -implicitDefEqProofs only [go_sem]
    have he : eatP p := h1.2.1.1
    rw [goStepZ, if_pos e]; exact ⟨⟨⟨rfl, rfl, rfl, rfl⟩, decide_eq_decide.2 ⟨fun _ => e, fun _ => he⟩⟩, rfl, rfl⟩
  ·refine callX [] (spec_l9Copy p hc (by omega)) (by simp -implicitDefEqProofs only [go_sem]) ?_
   simp -implicitDefEqProofs only [go_sem]
   have e : ¬ goStepP x base r l p to true := fun h => h1 h.1
   rw [goStepZ, if_neg e]; exact ⟨⟨⟨rfl, rfl, rfl, rfl⟩, dec_f e⟩, rfl, rfl⟩
theorem impl_GoStep (x : DLand) (base : Int) (r : DRule) (l : List DDepot) (p : DParty) (to : Int) (s : Bool) (hx : x.cells.length <= 1048576) (hl : l.length <= 1048576) (hc : p.crew.length <= 1048576) (hp : p.past.length <= 1048576) :
  SC Tryz.prog 206 [.ag x.ats, .at (.v (.int .i64 base)), .ag r.ats, .at (.im 2 (l.map DDepot.row)), .ag p.ats, .at (.v (.int .i64 to)), .at (.v (.bool s))] [] (.tp [.ag (goStepZ x base r l p to s).frs, .at (.v (.bool (decide (goStepP x base r l p to s))))]) [] := by
 cases s
 ·refine SC.of_W mixed Tryz.func206 (by kernel_rfl) rfl Tryz.results206 _ Tryz.ntmps206 (by simp) ?_
  simp -implicitDefEqProofs only [go_sem]
  refine callX [] (impl_MayGo x base r l p to hx hl hc hp) (by simp -implicitDefEqProofs only [go_sem]) ?_
  simp -implicitDefEqProofs only [go_sem]
  refine ⟨fun h1 => ?_, fun h1 => ?_⟩
  ·have e : goStepP x base r l p to false := ⟨h1, fun h => by cases h⟩
   have hf := h1.1.2.food
   have hi : I64 p.food := by unfold I64; omega
   refine callX [] (impl_passed p to false hc (by have := h1.1.2.past; omega) hi) (by simp -implicitDefEqProofs only [go_sem]) ?_
   simp -implicitDefEqProofs only [go_sem]
   have he : eatP p := h1.2.1.1
   rw [if_pos he]
   rw [goStepZ, if_pos e]; exact ⟨⟨⟨rfl, rfl, rfl, rfl⟩, decide_eq_decide.2 ⟨fun _ => e, fun _ => he⟩⟩, rfl, rfl⟩
  ·refine callX [] (impl_copied p hc (by omega)) (by simp -implicitDefEqProofs only [go_sem]) ?_
   simp -implicitDefEqProofs only [go_sem]
   have e : ¬ goStepP x base r l p to false := fun h => h1 h.1
   rw [goStepZ, if_neg e]; exact ⟨⟨⟨rfl, rfl, rfl, rfl⟩, dec_f e⟩, rfl, rfl⟩
 ·refine SC.of_W mixed Tryz.func206 (by kernel_rfl) rfl Tryz.results206 _ Tryz.ntmps206 (by simp) ?_
  simp -implicitDefEqProofs only [go_sem]
  refine callX [] (impl_MayGo x base r l p to hx hl hc hp) (by simp -implicitDefEqProofs only [go_sem]) ?_
  simp -implicitDefEqProofs only [go_sem]
  refine ⟨fun h1 => ?_, fun h1 => ?_⟩
  ·refine callX [] (impl_MayStorm r p.past (by omega)) (by simp -implicitDefEqProofs only [go_sem]) ?_
   simp -implicitDefEqProofs only [go_sem]
   refine ⟨fun h2 => ?_, fun h2 => ?_⟩
   ·refine callX [] (impl_copied p hc (by omega)) (by simp -implicitDefEqProofs only [go_sem]) ?_
    simp -implicitDefEqProofs only [go_sem]
    have e : ¬ goStepP x base r l p to true := fun h => h2 (h.2 rfl)
    rw [goStepZ, if_neg e]; exact ⟨⟨⟨rfl, rfl, rfl, rfl⟩, dec_f e⟩, rfl, rfl⟩
   ·have e : goStepP x base r l p to true := ⟨h1, fun _ => h2⟩
    have hf := h1.1.2.food
    have hi : I64 p.food := by unfold I64; omega
    refine callX [] (impl_passed p p.at_ true hc (by have := h1.1.2.past; omega) hi) (by simp -implicitDefEqProofs only [go_sem]) ?_
    simp -implicitDefEqProofs only [go_sem]
    have he : eatP p := h1.2.1.1
    rw [if_pos he]
    rw [goStepZ, if_pos e]; exact ⟨⟨⟨rfl, rfl, rfl, rfl⟩, decide_eq_decide.2 ⟨fun _ => e, fun _ => he⟩⟩, rfl, rfl⟩
  ·refine callX [] (impl_copied p hc (by omega)) (by simp -implicitDefEqProofs only [go_sem]) ?_
   simp -implicitDefEqProofs only [go_sem]
   have e : ¬ goStepP x base r l p to true := fun h => h1 h.1
   rw [goStepZ, if_neg e]; exact ⟨⟨⟨rfl, rfl, rfl, rfl⟩, dec_f e⟩, rfl, rfl⟩
def waitStepP (x : DLand) (base : Int) (r : DRule) (l : List DDepot) (p : DParty) (s : Bool) : Prop := mayWaitP x base r l p /\ (s = true -> mayP r p.past)
noncomputable instance (x : DLand) (base : Int) (r : DRule) (l : List DDepot) (p : DParty) (s : Bool) : Decidable (waitStepP x base r l p s) := Classical.propDecidable _
noncomputable def waitStepZ (x : DLand) (base : Int) (r : DRule) (l : List DDepot) (p : DParty) (s : Bool) : DParty := if waitStepP x base r l p s then dayZ p p.at_ s else p
theorem spec_WaitStep (x : DLand) (base : Int) (r : DRule) (l : List DDepot) (p : DParty) (s : Bool) (hx : x.cells.length <= 1048576) (hl : l.length <= 1048576) (hc : p.crew.length <= 1048576) (hp : p.past.length <= 1048576) :
  SC Tryz.prog 168 [.ag x.ats, .at (.v (.int .i64 base)), .ag r.ats, .at (.im 2 (l.map DDepot.row)), .ag p.ats, .at (.v (.bool s))] [] (.tp [.ag (waitStepZ x base r l p s).frs, .at (.v (.bool (decide (waitStepP x base r l p s))))]) [] := by
 cases s
 ·refine SC.of_W mixed Tryz.func168 (by kernel_rfl) rfl Tryz.results168 _ Tryz.ntmps168 (by simp) ?_
  simp -implicitDefEqProofs only [go_sem]
  refine callX [] (spec_MayWait x base r l p hx hl hc hp) (by simp -implicitDefEqProofs only [go_sem]) ?_
  simp -implicitDefEqProofs only [go_sem]
  refine ⟨fun h1 => ?_, fun h1 => ?_⟩
  ·have e : waitStepP x base r l p false := ⟨h1, fun h => by cases h⟩
   have hf := h1.1.food
   have hi : I64 p.food := by unfold I64; omega
   refine callX [] (spec_l11Day p p.at_ false hc (by have := h1.1.past; omega) hi) (by simp -implicitDefEqProofs only [go_sem]) ?_
   simp -implicitDefEqProofs only [go_sem]
   have he : eatP p := h1.2.1.1
   rw [waitStepZ, if_pos e]; exact ⟨⟨⟨rfl, rfl, rfl, rfl⟩, decide_eq_decide.2 ⟨fun _ => e, fun _ => he⟩⟩, rfl, rfl⟩
  ·refine callX [] (spec_l9Copy p hc (by omega)) (by simp -implicitDefEqProofs only [go_sem]) ?_
   simp -implicitDefEqProofs only [go_sem]
   have e : ¬ waitStepP x base r l p false := fun h => h1 h.1
   rw [waitStepZ, if_neg e]; exact ⟨⟨⟨rfl, rfl, rfl, rfl⟩, dec_f e⟩, rfl, rfl⟩
 ·refine SC.of_W mixed Tryz.func168 (by kernel_rfl) rfl Tryz.results168 _ Tryz.ntmps168 (by simp) ?_
  simp -implicitDefEqProofs only [go_sem]
  refine callX [] (spec_MayWait x base r l p hx hl hc hp) (by simp -implicitDefEqProofs only [go_sem]) ?_
  simp -implicitDefEqProofs only [go_sem]
  refine ⟨fun h1 => ?_, fun h1 => ?_⟩
  ·refine callX [] (spec_MayStorm r p.past (by omega)) (by simp -implicitDefEqProofs only [go_sem]) ?_
   simp -implicitDefEqProofs only [go_sem]
   refine ⟨fun h2 => ?_, fun h2 => ?_⟩
   ·refine callX [] (spec_l9Copy p hc (by omega)) (by simp -implicitDefEqProofs only [go_sem]) ?_
    simp -implicitDefEqProofs only [go_sem]
    have e : ¬ waitStepP x base r l p true := fun h => h2 (h.2 rfl)
    rw [waitStepZ, if_neg e]; exact ⟨⟨⟨rfl, rfl, rfl, rfl⟩, dec_f e⟩, rfl, rfl⟩
   ·have e : waitStepP x base r l p true := ⟨h1, fun _ => h2⟩
    have hf := h1.1.food
    have hi : I64 p.food := by unfold I64; omega
    refine callX [] (spec_l11Day p p.at_ true hc (by have := h1.1.past; omega) hi) (by simp -implicitDefEqProofs only [go_sem]) ?_
    simp -implicitDefEqProofs only [go_sem]
    have he : eatP p := h1.2.1.1
    rw [waitStepZ, if_pos e]; exact ⟨⟨⟨rfl, rfl, rfl, rfl⟩, decide_eq_decide.2 ⟨fun _ => e, fun _ => he⟩⟩, rfl, rfl⟩
  ·refine callX [] (spec_l9Copy p hc (by omega)) (by simp -implicitDefEqProofs only [go_sem]) ?_
   simp -implicitDefEqProofs only [go_sem]
   have e : ¬ waitStepP x base r l p true := fun h => h1 h.1
   rw [waitStepZ, if_neg e]; exact ⟨⟨⟨rfl, rfl, rfl, rfl⟩, dec_f e⟩, rfl, rfl⟩
theorem impl_WaitStep (x : DLand) (base : Int) (r : DRule) (l : List DDepot) (p : DParty) (s : Bool) (hx : x.cells.length <= 1048576) (hl : l.length <= 1048576) (hc : p.crew.length <= 1048576) (hp : p.past.length <= 1048576) :
  SC Tryz.prog 208 [.ag x.ats, .at (.v (.int .i64 base)), .ag r.ats, .at (.im 2 (l.map DDepot.row)), .ag p.ats, .at (.v (.bool s))] [] (.tp [.ag (waitStepZ x base r l p s).frs, .at (.v (.bool (decide (waitStepP x base r l p s))))]) [] := by
 cases s
 ·refine SC.of_W mixed Tryz.func208 (by kernel_rfl) rfl Tryz.results208 _ Tryz.ntmps208 (by simp) ?_
  simp -implicitDefEqProofs only [go_sem]
  refine callX [] (impl_MayWait x base r l p hx hl hc hp) (by simp -implicitDefEqProofs only [go_sem]) ?_
  simp -implicitDefEqProofs only [go_sem]
  refine ⟨fun h1 => ?_, fun h1 => ?_⟩
  ·have e : waitStepP x base r l p false := ⟨h1, fun h => by cases h⟩
   have hf := h1.1.food
   have hi : I64 p.food := by unfold I64; omega
   refine callX [] (impl_passed p p.at_ false hc (by have := h1.1.past; omega) hi) (by simp -implicitDefEqProofs only [go_sem]) ?_
   simp -implicitDefEqProofs only [go_sem]
   have he : eatP p := h1.2.1.1
   rw [if_pos he]
   rw [waitStepZ, if_pos e]; exact ⟨⟨⟨rfl, rfl, rfl, rfl⟩, decide_eq_decide.2 ⟨fun _ => e, fun _ => he⟩⟩, rfl, rfl⟩
  ·refine callX [] (impl_copied p hc (by omega)) (by simp -implicitDefEqProofs only [go_sem]) ?_
   simp -implicitDefEqProofs only [go_sem]
   have e : ¬ waitStepP x base r l p false := fun h => h1 h.1
   rw [waitStepZ, if_neg e]; exact ⟨⟨⟨rfl, rfl, rfl, rfl⟩, dec_f e⟩, rfl, rfl⟩
 ·refine SC.of_W mixed Tryz.func208 (by kernel_rfl) rfl Tryz.results208 _ Tryz.ntmps208 (by simp) ?_
  simp -implicitDefEqProofs only [go_sem]
  refine callX [] (impl_MayWait x base r l p hx hl hc hp) (by simp -implicitDefEqProofs only [go_sem]) ?_
  simp -implicitDefEqProofs only [go_sem]
  refine ⟨fun h1 => ?_, fun h1 => ?_⟩
  ·refine callX [] (impl_MayStorm r p.past (by omega)) (by simp -implicitDefEqProofs only [go_sem]) ?_
   simp -implicitDefEqProofs only [go_sem]
   refine ⟨fun h2 => ?_, fun h2 => ?_⟩
   ·refine callX [] (impl_copied p hc (by omega)) (by simp -implicitDefEqProofs only [go_sem]) ?_
    simp -implicitDefEqProofs only [go_sem]
    have e : ¬ waitStepP x base r l p true := fun h => h2 (h.2 rfl)
    rw [waitStepZ, if_neg e]; exact ⟨⟨⟨rfl, rfl, rfl, rfl⟩, dec_f e⟩, rfl, rfl⟩
   ·have e : waitStepP x base r l p true := ⟨h1, fun _ => h2⟩
    have hf := h1.1.food
    have hi : I64 p.food := by unfold I64; omega
    refine callX [] (impl_passed p p.at_ true hc (by have := h1.1.past; omega) hi) (by simp -implicitDefEqProofs only [go_sem]) ?_
    simp -implicitDefEqProofs only [go_sem]
    have he : eatP p := h1.2.1.1
    rw [if_pos he]
    rw [waitStepZ, if_pos e]; exact ⟨⟨⟨rfl, rfl, rfl, rfl⟩, decide_eq_decide.2 ⟨fun _ => e, fun _ => he⟩⟩, rfl, rfl⟩
  ·refine callX [] (impl_copied p hc (by omega)) (by simp -implicitDefEqProofs only [go_sem]) ?_
   simp -implicitDefEqProofs only [go_sem]
   have e : ¬ waitStepP x base r l p true := fun h => h1 h.1
   rw [waitStepZ, if_neg e]; exact ⟨⟨⟨rfl, rfl, rfl, rfl⟩, dec_f e⟩, rfl, rfl⟩
end Go.Abs
