/- Expeditions: what they are, their copies, their beginning, the events of the way home. -/
import Derived.Test.YthobmgkagcampaaGreatDoorAReturn
namespace Go.Abs
open Go.RowKit Go.Proofs
set_option linter.all false
set_option maxRecDepth 100000
set_option maxHeartbeats 4000000
structure DTrek.Fit (t : DTrek) : Prop where
 cells : t.land.cells.length <= 1048576
 depots : t.depots.length <= 1048576
 crew : t.party.crew.length <= 1048576
 past : t.party.past.length <= 1048576
 journal : t.journal.length <= 1048576
 pages : ∀ p ∈ t.journal, p.wf
def DTrek.Back (t : DTrek) : Prop := backP t.land t.base t.rule t.depots t.party
noncomputable instance (t : DTrek) : Decidable t.Back := Classical.propDecidable _
def trekP (t : DTrek) : Prop := t.Back /\ KeepsP t.rule t.party.past /\ Journal t.journal /\ (t.journal.length = 0 \/ (prevP t.journal t.journal.length).day <= t.day) /\ (0 <= t.day /\ t.day <= 5000) /\ lostP t
noncomputable instance (t : DTrek) : Decidable (trekP t) := Classical.propDecidable _
theorem impl_CanReturnNow (t : DTrek) (h : t.Fit) : SC Tryz.prog 278 [.ag t.ats] [] (.at (.v (.bool (decide t.Back)))) [] := by
 refine SC.of_V mixed Tryz.func278 (by kernel_rfl) rfl Tryz.results278 _ Tryz.ntmps278 (by simp) ?_
 simp -implicitDefEqProofs only [go_sem]
 refine callX [] (impl_CanReturn t.land t.base t.rule t.depots t.party h.cells h.depots h.crew) (by simp -implicitDefEqProofs only [go_sem]) ?_
 simp -implicitDefEqProofs only [go_sem]
 exact decide_eq_decide.2 Iff.rfl
theorem spec_CanReturnNow (t : DTrek) (h : t.Fit) : SC Tryz.prog 216 [.ag t.ats] [] (.at (.v (.bool (decide t.Back)))) [] := by
 refine SC.of_V mixed Tryz.func216 (by kernel_rfl) rfl Tryz.results216 _ Tryz.ntmps216 (by simp) ?_
 simp -implicitDefEqProofs only [go_sem]
 refine callX [] (spec_CanReturn t.land t.base t.rule t.depots t.party h.cells h.depots h.crew) (by simp -implicitDefEqProofs only [go_sem]) ?_
 simp -implicitDefEqProofs only [go_sem]
 exact decide_eq_decide.2 Iff.rfl
theorem trek_food {t : DTrek} (h : t.Back) : foodZ t.depots <= 200000 /\ 0 <= foodZ t.depots := by
 have h1 := h.1.1.2.1.2.2
 have h2 := foodZ_bnd t.depots
 omega
theorem spec_IsTrek (t : DTrek) (h : t.Fit) : SC Tryz.prog 120 [.ag t.ats] [] (.at (.v (.bool (decide (trekP t))))) [] := by
 refine SC.of_V mixed Tryz.func120 (by kernel_rfl) rfl Tryz.results120 _ Tryz.ntmps120 (by simp) ?_
 simp -implicitDefEqProofs only [go_sem]
 refine callX [] (spec_CanReturnNow t h) (by simp -implicitDefEqProofs only [go_sem]) ?_
 simp -implicitDefEqProofs only [go_sem]
 refine ⟨fun h1 => ?_, fun h1 => dec_f fun k => h1 k.1⟩
 refine callX [] (spec_Keeps t.rule t.party.past (Nat.le_trans h.past (by omega))) (by simp -implicitDefEqProofs only [go_sem]) ?_
 simp -implicitDefEqProofs only [go_sem]
 refine ⟨fun h2 => ?_, fun h2 => dec_f fun k => h2 k.2.1⟩
 refine callX [] (spec_IsJournal t.journal (Nat.le_trans h.journal (by omega)) h.pages) (by simp -implicitDefEqProofs only [go_sem]) ?_
 simp -implicitDefEqProofs only [go_sem]
 refine ⟨fun h3 => ?_, fun h3 => dec_f fun k => h3 k.2.2.1⟩
 refine callX [] (spec_l1In t.day 0 5000) (by simp -implicitDefEqProofs only [go_sem]) ?_
 simp -implicitDefEqProofs only [go_sem]
 refine ⟨fun h4 => ?_, fun h4 => dec_f fun k => h4 k.2.2.2.2.1⟩
 refine callX [] (spec_l1In t.given 0 1000000) (by simp -implicitDefEqProofs only [go_sem]) ?_
 simp -implicitDefEqProofs only [go_sem]
 refine ⟨fun h5 => ?_, fun h5 => dec_f fun k => h5 k.2.2.2.2.2.1⟩
 refine callX [] (spec_l1In t.eaten 0 1000000) (by simp -implicitDefEqProofs only [go_sem]) ?_
 simp -implicitDefEqProofs only [go_sem]
 refine ⟨fun h6 => dec_f fun k => h6 k.2.2.2.2.2.2.1, fun h6 => ?_⟩
 have hj := h.journal
 have hfd := trek_food h1
 have hpf := h1.food
 refine ⟨some [], by decide +kernel, ?_⟩
 simp -implicitDefEqProofs only [go_sem]
 rw [wrap64 (x := (t.journal.length : Int) - 1) (by omega) (by omega), show ((t.journal.length : Int) - 1).toNat = t.journal.length - 1 by omega]
 have fin : (t.journal.length = 0 \/ (prevP t.journal t.journal.length).day <= t.day) -> decide (t.given = t.eaten + t.party.food + foodZ t.depots) = decide (trekP t) := fun hd =>
  decide_eq_decide.2 ⟨fun e => ⟨h1, h2, h3, hd, h4, h5, h6, hpf, e⟩, fun k => k.2.2.2.2.2.2.2.2⟩
 refine ⟨fun h7 => ⟨by omega, fun p hp => ⟨fun h8 => dec_f fun k => ?_, fun h8 => ?_⟩⟩, fun h7 => ?_⟩
 ·rcases k.2.2.2.1 with h9 | h9
  ·omega
  ·rw [prevP_get hp (by omega)] at h9; omega
 ·refine ⟨some [], by decide +kernel, ?_⟩
  simp -implicitDefEqProofs only [go_sem]
  refine callXQ [] (spec_TotalFood t.depots h.depots) (by simp -implicitDefEqProofs only [go_sem]) ?_
  simp -implicitDefEqProofs only [go_sem]
  rw [wrap64 (x := t.eaten + t.party.food) (by omega) (by omega), wrap64 (by omega) (by omega)]
  exact fin (.inr (by rw [prevP_get hp (by omega)]; omega))
 ·refine ⟨some [], by decide +kernel, ?_⟩
  simp -implicitDefEqProofs only [go_sem]
  refine callXQ [] (spec_TotalFood t.depots h.depots) (by simp -implicitDefEqProofs only [go_sem]) ?_
  simp -implicitDefEqProofs only [go_sem]
  rw [wrap64 (x := t.eaten + t.party.food) (by omega) (by omega), wrap64 (by omega) (by omega)]
  exact fin (.inl (by omega))
theorem impl_IsTrek (t : DTrek) (h : t.Fit) : SC Tryz.prog 201 [.ag t.ats] [] (.at (.v (.bool (decide (trekP t))))) [] := by
 refine SC.of_V mixed Tryz.func201 (by kernel_rfl) rfl Tryz.results201 _ Tryz.ntmps201 (by simp) ?_
 simp -implicitDefEqProofs only [go_sem]
 refine ⟨some [], by decide +kernel, ?_⟩
 simp -implicitDefEqProofs only [go_sem]
 refine callXQ [] (impl_CanReturnNow t h) (by simp -implicitDefEqProofs only [go_sem]) ?_
 simp -implicitDefEqProofs only [go_sem]
 refine ⟨fun h1 => ?_, fun h1 => dec_f fun k => h1 k.1⟩
 refine callXQ [] (impl_KeepsRule t (Nat.le_trans h.past (by omega))) (by simp -implicitDefEqProofs only [go_sem]) ?_
 simp -implicitDefEqProofs only [go_sem]
 refine ⟨fun h2 => ?_, fun h2 => dec_f fun k => h2 k.2.1⟩
 refine callXQ [] (impl_IsJournal t.journal (Nat.le_trans h.journal (by omega)) h.pages) (by simp -implicitDefEqProofs only [go_sem]) ?_
 simp -implicitDefEqProofs only [go_sem]
 refine ⟨fun h3 => ?_, fun h3 => dec_f fun k => h3 k.2.2.1⟩
 have hj := h.journal
 rw [wrap64 (x := (t.journal.length : Int) - 1) (by omega) (by omega), show ((t.journal.length : Int) - 1).toNat = t.journal.length - 1 by omega]
 have fin : (t.journal.length = 0 \/ (prevP t.journal t.journal.length).day <= t.day) -> (0 <= t.day /\ t.day <= 5000) -> decide (lostP t) = decide (trekP t) := fun hd h4 =>
  decide_eq_decide.2 ⟨fun e => ⟨h1, h2, h3, hd, h4, e⟩, fun k => k.2.2.2.2.2⟩
 refine ⟨fun h7 => ⟨by omega, fun p hp => ⟨fun h8 => ?_, fun h8 => dec_f fun k => ?_⟩⟩, fun h7 => ?_⟩
 ·refine callXQ [] (impl_InRange t.day 0 5000) (by simp -implicitDefEqProofs only [go_sem]) ?_
  simp -implicitDefEqProofs only [go_sem]
  refine ⟨fun h4 => ?_, fun h4 => dec_f fun k => h4 k.2.2.2.2.1⟩
  refine callXQ [] (impl_NothingLost t h.depots) (by simp -implicitDefEqProofs only [go_sem]) ?_
  simp -implicitDefEqProofs only [go_sem]
  exact fin (.inr (by rw [prevP_get hp (by omega)]; omega)) h4
 ·rcases k.2.2.2.1 with h9 | h9
  ·omega
  ·rw [prevP_get hp (by omega)] at h9; omega
 ·refine callXQ [] (impl_InRange t.day 0 5000) (by simp -implicitDefEqProofs only [go_sem]) ?_
  simp -implicitDefEqProofs only [go_sem]
  refine ⟨fun h4 => ?_, fun h4 => dec_f fun k => h4 k.2.2.2.2.1⟩
  refine callXQ [] (impl_NothingLost t h.depots) (by simp -implicitDefEqProofs only [go_sem]) ?_
  simp -implicitDefEqProofs only [go_sem]
  exact fin (.inl (by omega)) h4
theorem impl_copyOf (l : List Int) (hl : l.length <= 1048576) : SC Tryz.prog 171 [.at (.im 1 (l.map intRow))] [] (.at (.fr 1 (l.map intRow))) [] := by
 refine SC.of_W mixed Tryz.func171 (by kernel_rfl) rfl Tryz.results171 _ Tryz.ntmps171 (by simp) ?_
 simp -implicitDefEqProofs only [go_sem]
 exact room_s hl (by decide)
theorem impl_Land_copied (x : DLand) (h : x.cells.length <= 1048576) : SC Tryz.prog 81 [.ag x.ats] [] (.ag x.frs) [] := by
 refine SC.of_W mixed Tryz.func81 (by kernel_rfl) rfl Tryz.results81 _ Tryz.ntmps81 (by simp) ?_
 simp -implicitDefEqProofs only [go_sem]
 refine ⟨some [], by decide +kernel, ?_⟩
 simp -implicitDefEqProofs only [go_sem]
 refine callXQ [] (impl_copyOf x.cells h) (by simp -implicitDefEqProofs only [go_sem]) ?_
 simp -implicitDefEqProofs only [go_sem]
theorem spec_l33Copy (t : DTrek) (h : t.Fit) : SC Tryz.prog 45 [.ag t.ats] [] (.ag t.frs) [] := by
 refine SC.of_W mixed Tryz.func45 (by kernel_rfl) rfl Tryz.results45 _ Tryz.ntmps45 (by simp) ?_
 simp -implicitDefEqProofs only [go_sem]
 have hj := h.journal
 have hp := h.past
 refine ⟨some [], by decide +kernel, ?_⟩
 simp -implicitDefEqProofs only [go_sem]
 refine ⟨room_s h.cells (by decide), room_s h.depots (by decide), ?_⟩
 refine callXQ [] (spec_l9Copy t.party h.crew (by omega)) (by simp -implicitDefEqProofs only [go_sem]) ?_
 simp -implicitDefEqProofs only [go_sem]
 exact room_s (by omega) (by decide)
def newT (x : DLand) (base : Int) (r : DRule) (crew : List DMember) : DTrek := ⟨x, base, r, [], ⟨base, 0, crew, []⟩, [], 0, 0, 0⟩
attribute [go_sem] newT
def noT : DTrek := ⟨⟨0, 0, []⟩, 0, ⟨0, 0⟩, [], ⟨0, 0, [], []⟩, [], 0, 0, 0⟩
noncomputable def newTrekZ (x : DLand) (base : Int) (r : DRule) (crew : List DMember) : DTrek := if trekP (newT x base r crew) then newT x base r crew else noT
theorem newT_fit {x : DLand} {base : Int} {r : DRule} {crew : List DMember} (hx : x.cells.length <= 1048576) (hc : crew.length <= 1048576) : (newT x base r crew).Fit :=
 ⟨hx, Nat.zero_le _, hc, Nat.zero_le _, Nat.zero_le _, by intro p hp; cases hp⟩
theorem newTrekZ_cells {x : DLand} {base : Int} {r : DRule} {crew : List DMember} {N : Nat} (h : x.cells.length <= N) : (newTrekZ x base r crew).land.cells.length <= N := by
 unfold newTrekZ; split
 ·exact h
 ·exact Nat.zero_le _
theorem newTrekZ_crew {x : DLand} {base : Int} {r : DRule} {crew : List DMember} {N : Nat} (h : crew.length <= N) : (newTrekZ x base r crew).party.crew.length <= N := by
 unfold newTrekZ; split
 ·exact h
 ·exact Nat.zero_le _
theorem spec_NewTrek (x : DLand) (base : Int) (r : DRule) (crew : List DMember) (hx : x.cells.length <= 1048576) (hc : crew.length <= 1048576) :
  SC Tryz.prog 47 [.ag x.ats, .at (.v (.int .i64 base)), .ag r.ats, .at (.im 4 (crew.map DMember.row))] [] (.tp [.ag (newTrekZ x base r crew).frs, .at (.v (.bool (decide (trekP (newT x base r crew)))))]) [] := by
 refine SC.of_W mixed Tryz.func47 (by kernel_rfl) rfl Tryz.results47 _ Tryz.ntmps47 (by simp) ?_
 simp -implicitDefEqProofs only [go_sem]
 refine callX [] (spec_l33Copy (newT x base r crew) (newT_fit hx hc)) (by simp -implicitDefEqProofs only [go_sem]) ?_
 simp -implicitDefEqProofs only [go_sem]
 refine callX [1288, 1289, 1290, 1291, 1292] (spec_IsTrek (newT x base r crew) (newT_fit hx hc)) (by simp -implicitDefEqProofs only [go_sem]) ?_
 simp -implicitDefEqProofs only [go_sem]
 refine ⟨fun h => ?_, fun h => ?_⟩
 ·have e : newTrekZ x base r crew = noT := if_neg (of_decide_eq_false h)
  rw [e]; exact ⟨⟨⟨rfl, rfl, rfl, rfl, rfl, rfl, rfl, rfl, rfl, rfl, rfl, rfl, rfl, rfl, rfl⟩, h.symm⟩, rfl, rfl, rfl, rfl, rfl⟩
 ·have e : newTrekZ x base r crew = newT x base r crew := if_pos (of_decide_eq_true h)
  rw [e]; exact ⟨⟨⟨rfl, rfl, rfl, rfl, rfl, rfl, rfl, rfl, rfl, rfl, rfl, rfl, rfl, rfl, rfl⟩, h.symm⟩, rfl, rfl, rfl, rfl, rfl⟩
theorem impl_NewTrek (x : DLand) (base : Int) (r : DRule) (crew : List DMember) (hx : x.cells.length <= 1048576) (hc : crew.length <= 1048576) :
  SC Tryz.prog 100 [.ag x.ats, .at (.v (.int .i64 base)), .ag r.ats, .at (.im 4 (crew.map DMember.row))] [] (.tp [.ag (newTrekZ x base r crew).frs, .at (.v (.bool (decide (trekP (newT x base r crew)))))]) [] := by
 refine SC.of_W mixed Tryz.func100 (by kernel_rfl) rfl Tryz.results100 _ Tryz.ntmps100 (by simp) ?_
 simp -implicitDefEqProofs only [go_sem]
 refine ⟨some [], by decide +kernel, ?_⟩
 simp -implicitDefEqProofs only [go_sem]
 refine callXQ [] (impl_Land_copied x hx) (by simp -implicitDefEqProofs only [go_sem]) ?_
 simp -implicitDefEqProofs only [go_sem]
 refine callXQ [] (impl_copyCrew crew hc) (by simp -implicitDefEqProofs only [go_sem]) ?_
 simp -implicitDefEqProofs only [go_sem]
 refine callX [1192, 1272] (impl_IsTrek (newT x base r crew) (newT_fit hx hc)) (by simp -implicitDefEqProofs only [go_sem]) ?_
 simp -implicitDefEqProofs only [go_sem]
 refine ⟨fun h => ?_, fun h => ?_⟩
 ·have e : newTrekZ x base r crew = noT := if_neg (of_decide_eq_false h)
  rw [e]; exact ⟨⟨⟨rfl, rfl, rfl, rfl, rfl, rfl, rfl, rfl, rfl, rfl, rfl, rfl, rfl, rfl, rfl⟩, h.symm⟩, rfl, rfl, rfl, rfl, rfl⟩
 ·have e : newTrekZ x base r crew = newT x base r crew := if_pos (of_decide_eq_true h)
  rw [e]; exact ⟨⟨⟨rfl, rfl, rfl, rfl, rfl, rfl, rfl, rfl, rfl, rfl, rfl, rfl, rfl, rfl, rfl⟩, h.symm⟩, rfl, rfl, rfl, rfl, rfl⟩
end Go.Abs
