/- A trek comes home: the events of the way home lead to the base. -/
import Derived.Test.YthobmgkagcampaaGreatDoorAEvt
namespace Go.Abs
open Go.RowKit Go.Proofs
set_option linter.all false
set_option maxRecDepth 100000
set_option maxHeartbeats 4000000
noncomputable def runT (t : DTrek) (l : List DEvent) (i : Nat) : DTrek := (l.take i).foldl applyZ t
noncomputable def runZ (t : DTrek) (l : List DEvent) : DTrek := l.foldl applyZ t
theorem runT_S {t : DTrek} {l : List DEvent} {i : Nat} {e : DEvent} (h : l[i]? = some e) : runT t l (i + 1) = applyZ (runT t l i) e := by
 rw [runT, List.take_add_one, h, Option.toList_some, List.foldl_append]; rfl
theorem runT_end {t : DTrek} {l : List DEvent} {i : Nat} (h : ¬ (i : Int) < l.length) : runT t l i = runZ t l := by
 rw [runT, List.take_of_length_le (by omega)]; rfl
def DTrek.owk (p : DTrek) (k : Nat) : List A := [.v (.int .i64 p.land.w), .v (.int .i64 p.land.h), .ow k 0 1 p.land.cells.length, .v (.int .i64 p.base), .v (.int .i64 p.rule.most), .v (.int .i64 p.rule.window), .ow (k + 1) 0 2 p.depots.length, .v (.int .i64 p.party.at_), .v (.int .i64 p.party.food), .ow (k + 2) 0 4 p.party.crew.length, .ow (k + 3) 0 1 p.party.past.length, .ow (k + 4) 0 4 p.journal.length, .v (.int .i64 p.day), .v (.int .i64 p.given), .v (.int .i64 p.eaten)]
attribute [go_sem] DTrek.owk
def zeroT : List A := [.v (.int .i64 0), .v (.int .i64 0), .nil, .v (.int .i64 0), .v (.int .i64 0), .v (.int .i64 0), .nil, .v (.int .i64 0), .v (.int .i64 0), .nil, .nil, .nil, .v (.int .i64 0), .v (.int .i64 0), .v (.int .i64 0)]
attribute [go_sem] zeroT
theorem impl_RunEvents (t : DTrek) (l : List DEvent) (h : t.Sane) (hl : l.length <= 1048576) (he : ∀ e ∈ l, I64 e.n) : SC Tryz.prog 276 [.ag t.ats, .at (.im 3 (l.map DEvent.row))] [] (.ag (runZ t l).frs) [] := by
 refine SC.of_W mixed Tryz.func276 (by kernel_rfl) rfl Tryz.results276 _ Tryz.ntmps276 (by simp) ?_
 simp -implicitDefEqProofs only [go_sem]
 refine callX [] (impl_Trek_copied t h.fit) (by simp -implicitDefEqProofs only [go_sem]) ?_
 simp -implicitDefEqProofs only [go_sem]
 refine T.loopW mixed [4, 5, 10, 11, 12] (fun mm vs es => ∃ (x : DTrek) (i : Nat), vs = [.at (.bx 100 0 0), .at (.bx 101 0 0), .at (.im 3 (l.map DEvent.row)), .at (.v (.int .i64 l.length)), .at (.v (.int .i64 (i : Nat)))] /\ es = [.box 0 zeroT, .box 0 (x.owk 102), .arr 0 1 (x.land.cells.map intRow), .arr 0 2 (x.depots.map DDepot.row), .arr 0 4 (x.party.crew.map DMember.row), .arr 0 1 (x.party.past.map boolRow), .arr 0 4 (x.journal.map DPage.row)] /\ mm + i = l.length /\ x.Sane /\ runT t l i = x) l.length ?_ ?_
 ·simp -implicitDefEqProofs only [go_sem]
  exact ⟨t, 0, rfl, ⟨rfl, rfl, rfl, rfl, rfl, rfl⟩, by omega, h, rfl⟩
 rintro q _ _ ⟨x, i, rfl, rfl, hn, hx, hr⟩
 simp -implicitDefEqProofs only [go_sem]
 refine ⟨fun h1 => ⟨by omega, fun e hx2 => ?_⟩, fun h1 => ?_⟩
 ·refine callX [102, 103, 104, 105, 106] (impl_ApplyEvent x e hx (he e (mem_get hx2))) (by simp -implicitDefEqProofs only [go_sem]) ?_
  simp -implicitDefEqProofs only [go_sem]
  rw [wrap64 (by omega) (by omega)]
  exact ⟨q - 1, by omega, applyZ x e, i + 1, rfl, ⟨rfl, rfl, rfl, rfl, rfl, rfl⟩, by omega, applyZ_sane hx (he e (mem_get hx2)), by rw [runT_S hx2, hr]⟩
 ·rw [show runZ t l = x by rw [<- runT_end h1, hr]]
  simp only [and_self]
theorem homeEvZ_n {t : DTrek} : ∀ e ∈ homeEvZ t, I64 e.n := by
 unfold homeEvZ
 split
 ·intro e h
  obtain ⟨b, _, rfl⟩ := List.mem_map.1 h
  unfold I64; simp [homeEv]
 ·intro e h; cases h
def comesHomeP (t : DTrek) : Prop := (runZ t (homeEvZ t)).party.at_ = (runZ t (homeEvZ t)).base
noncomputable instance (t : DTrek) : Decidable (comesHomeP t) := Classical.propDecidable _
theorem impl_ComesHome (t : DTrek) (h : t.Sane) : SC Tryz.prog 200 [.ag t.ats] [] (.at (.v (.bool (decide (comesHomeP t))))) [] := by
 refine SC.of_V mixed Tryz.func200 (by kernel_rfl) rfl Tryz.results200 _ Tryz.ntmps200 (by simp) ?_
 simp -implicitDefEqProofs only [go_sem]
 refine ⟨some [], by decide +kernel, ?_⟩
 simp -implicitDefEqProofs only [go_sem]
 refine callXQ [] (impl_HomeEvents t h.fit) (by simp -implicitDefEqProofs only [go_sem]) ?_
 simp -implicitDefEqProofs only [go_sem]
 refine callXQ [1080] (impl_RunEvents t (homeEvZ t) h (homeEvZ_len (by decide)) homeEvZ_n) (by simp -implicitDefEqProofs only [go_sem]) ?_
 simp -implicitDefEqProofs only [go_sem]
 refine callXQ [1096, 1097, 1098, 1099, 1100] (impl_AtBase (runZ t (homeEvZ t))) (by simp -implicitDefEqProofs only [go_sem]) ?_
 simp -implicitDefEqProofs only [go_sem]
 exact decide_eq_decide.2 Iff.rfl
noncomputable def faultZ (t : DTrek) : ByteArray :=
 if ¬ lostP t then ⟨#[102, 111, 111, 100]⟩ else if ¬ KeepsP t.rule t.party.past then ⟨#[114, 117, 108, 101]⟩ else if ¬ writtenP t then ⟨#[106, 111, 117, 114, 110, 97, 108]⟩ else if ¬ comesHomeP t then ⟨#[104, 111, 109, 101]⟩ else if ¬ trekP t then ⟨#[116, 114, 101, 107]⟩ else ⟨#[]⟩
theorem impl_FaultOf (t : DTrek) (h : t.Sane) : SC Tryz.prog 97 [.ag t.ats] [] (.at (.v (.string (faultZ t)))) [] := by
 refine SC.of_V mixed Tryz.func97 (by kernel_rfl) rfl Tryz.results97 _ Tryz.ntmps97 (by simp) ?_
 simp -implicitDefEqProofs only [go_sem]
 refine callX [] (impl_NothingLost t h.fit.depots) (by simp -implicitDefEqProofs only [go_sem]) ?_
 simp -implicitDefEqProofs only [go_sem]
 refine ⟨fun h1 => by rw [faultZ, if_pos h1], fun h1 => ?_⟩
 refine callX [] (impl_KeepsRule t h.fit.past) (by simp -implicitDefEqProofs only [go_sem]) ?_
 simp -implicitDefEqProofs only [go_sem]
 refine ⟨fun h2 => by rw [faultZ, if_neg (not_not_intro h1), if_pos h2], fun h2 => ?_⟩
 refine callX [] (impl_IsWritten t h.fit.journal h.fit.pages) (by simp -implicitDefEqProofs only [go_sem]) ?_
 simp -implicitDefEqProofs only [go_sem]
 refine ⟨fun h3 => by rw [faultZ, if_neg (not_not_intro h1), if_neg (not_not_intro h2), if_pos h3], fun h3 => ?_⟩
 refine callX [] (impl_ComesHome t h) (by simp -implicitDefEqProofs only [go_sem]) ?_
 simp -implicitDefEqProofs only [go_sem]
 refine ⟨fun h4 => by rw [faultZ, if_neg (not_not_intro h1), if_neg (not_not_intro h2), if_neg (not_not_intro h3), if_pos h4], fun h4 => ?_⟩
 refine callX [] (impl_IsTrek t h.fit) (by simp -implicitDefEqProofs only [go_sem]) ?_
 simp -implicitDefEqProofs only [go_sem]
 refine ⟨fun h5 => by rw [faultZ, if_neg (not_not_intro h1), if_neg (not_not_intro h2), if_neg (not_not_intro h3), if_neg (not_not_intro h4), if_pos h5], fun h5 => by rw [faultZ, if_neg (not_not_intro h1), if_neg (not_not_intro h2), if_neg (not_not_intro h3), if_neg (not_not_intro h4), if_neg (not_not_intro h5)]⟩
end Go.Abs
namespace Go.Abs
open Go.RowKit Go.Proofs
set_option linter.all false
set_option maxRecDepth 100000
section
variable {x : DLand} {base : Int} {r : DRule} {l : List DDepot} {p : DParty}
end
end Go.Abs
