/- Events of an expedition. -/
import Derived.Test.YthobmgkagcampaaGreatDoorASafe
import Derived.Test.YthobmgkagcampaaGreatDoorAStpY
import Derived.Test.YthobmgkagcampaaGreatDoorAStpW
import Derived.Test.YthobmgkagcampaaGreatDoorAStpL
namespace Go.Abs
open Go.RowKit Go.Proofs
set_option linter.all false
set_option maxRecDepth 100000
set_option maxHeartbeats 4000000
def homeEv (s : Bool) : DEvent := ⟨4, 0, s⟩
noncomputable def homeEvZ (t : DTrek) : List DEvent := if trekP t then (homeOf t.land t.base t.rule t.depots t.party).2.1.map homeEv else []
theorem homeEvZ_len {t : DTrek} {N : Nat} (h : 62866 <= N) : (homeEvZ t).length <= N := by
 by_cases ht : trekP t
 ·rw [homeEvZ, if_pos ht, List.length_map]
  have hf := ht.1.1.1.2.2.2.2.1
  have hk := pick_food (n := foodAt t.party.at_ t.depots) hf
  have hl := wayZ_len t.land t.party.at_ t.base
  have := (homeW_len (r := t.rule) (l := t.depots) (p := pickZ t.party (foodAt t.party.at_ t.depots)) (rest := (wayZ t.land t.party.at_ t.base).drop 1) (by omega) (by simp; omega)).1
  exact Nat.le_trans this h
 ·rw [homeEvZ, if_neg ht]; exact Nat.zero_le _
theorem homeEv_len0 {t : DTrek} (ht : trekP t) : (homeOf t.land t.base t.rule t.depots t.party).2.1.length <= 62866 := by
 have := homeEvZ_len (t := t) (Nat.le_refl 62866)
 rw [homeEvZ, if_pos ht, List.length_map] at this
 exact this
theorem evS {l : List Bool} {b : Bool} : (l.map homeEv).map DEvent.row ++ [[.int .i64 4, .int .i64 0, .bool b]] = ((l ++ [b]).map homeEv).map DEvent.row := by simp [homeEv, DEvent.row]
theorem impl_HomeEvents (t : DTrek) (h : t.Fit) : SC Tryz.prog 277 [.ag t.ats] [] (.at (.fr 3 ((homeEvZ t).map DEvent.row))) [] := by
 refine SC.of_W mixed Tryz.func277 (by kernel_rfl) rfl Tryz.results277 _ Tryz.ntmps277 (by simp) ?_
 simp -implicitDefEqProofs only [go_sem]
 refine callX [] (impl_IsTrek t h) (by simp -implicitDefEqProofs only [go_sem]) ?_
 simp -implicitDefEqProofs only [go_sem]
 refine ⟨fun ht => by rw [homeEvZ, if_neg ht]; exact ⟨rfl, rfl⟩, fun ht => ?_⟩
 refine ⟨some [], by decide +kernel, ?_⟩
 simp -implicitDefEqProofs only [go_sem]
 refine callXQ [] (impl_WayTo t.land t.party.at_ t.base h.cells) (by simp -implicitDefEqProofs only [go_sem]) ?_
 simp -implicitDefEqProofs only [go_sem]
 have hb := ht.1
 have hwl := wayZ_len t.land t.party.at_ t.base
 refine callXQ [1320] (impl_worst (wayZ t.land t.party.at_ t.base) t.rule t.depots t.party hwl h.crew hb.past hb.food h.depots) (by simp -implicitDefEqProofs only [go_sem]) ?_
 simp -implicitDefEqProofs only [go_sem]
 have hl := (homeEv_len0 ht)
 rw [homeEvZ, if_pos ht, homeOf]
 unfold homeOf at hl
 generalize (homeW t.rule t.depots (pickZ t.party (foodAt t.party.at_ t.depots)) ((wayZ t.land t.party.at_ t.base).drop 1)).2.1 = D at hl ⊢
 refine T.loopW mixed [6, 32, 33, 34] (fun mm vs es => ∃ (i : Nat), vs = [.at (.ow 100 0 3 i), .at (.ow 101 0 1 D.length), .at (.v (.int .i64 (D.length : Nat))), .at (.v (.int .i64 (i : Nat)))] /\ es = [.arr 0 3 (((D.take i).map homeEv).map DEvent.row), .arr 0 1 (D.map boolRow)] /\ mm + i = D.length /\ i <= D.length) D.length ?_ ?_
 ·simp -implicitDefEqProofs only [go_sem]
  exact ⟨0, ⟨rfl, rfl⟩, rfl, rfl, Nat.zero_le _⟩
 rintro q _ _ ⟨i, rfl, rfl, hq, hi⟩
 simp -implicitDefEqProofs only [go_sem]
 refine ⟨fun hlt => ?_, fun hlt => ?_⟩
 ·refine ⟨by omega, by omega, fun b hb2 => ⟨by unfold Room; omega, q - 1, by omega, i + 1, ⟨by omega, wrap64 (by omega) (by omega)⟩, ?_, by omega, by omega⟩⟩
  rw [evS, List.take_add_one, hb2]; rfl
 ·rw [List.take_of_length_le (by omega)]
  exact ⟨by omega, rfl⟩
end Go.Abs
namespace Go.Abs
open Go.RowKit Go.Proofs
set_option linter.all false
set_option maxRecDepth 100000
set_option maxHeartbeats 4000000
noncomputable def applyZ (t : DTrek) (e : DEvent) : DTrek :=
 if e.kind = 1 then giveZ t e.n
 else if e.kind = 2 then dayR t (goStepZ t.land t.base t.rule t.depots t.party e.n e.storm) t.depots (goStepP t.land t.base t.rule t.depots t.party e.n e.storm)
 else if e.kind = 3 then dayR t (waitStepZ t.land t.base t.rule t.depots t.party e.storm) t.depots (waitStepP t.land t.base t.rule t.depots t.party e.storm)
 else if e.kind = 4 then dayR t (retZ t.land t.base t.rule t.depots t.party e.storm) (retL t.land t.base t.rule t.depots t.party e.storm) (retP t.land t.base t.rule t.depots t.party e.storm)
 else if e.kind = 5 then putR t (layStepZ t.land t.base t.rule t.depots t.party e.n) (layStepL t.land t.base t.rule t.depots t.party e.n) (mayLayP t.land t.base t.rule t.depots t.party e.n)
 else if e.kind = 6 then putR t (takeStepZ t.land t.base t.rule t.depots t.party e.n) (takeStepL t.land t.base t.rule t.depots t.party e.n) (takeStepP t.land t.base t.rule t.depots t.party e.n)
 else t
def applyP (t : DTrek) (e : DEvent) : Prop :=
 if e.kind = 1 then giveP t e.n
 else if e.kind = 2 then dayP t (goStepZ t.land t.base t.rule t.depots t.party e.n e.storm) t.depots (goStepP t.land t.base t.rule t.depots t.party e.n e.storm)
 else if e.kind = 3 then dayP t (waitStepZ t.land t.base t.rule t.depots t.party e.storm) t.depots (waitStepP t.land t.base t.rule t.depots t.party e.storm)
 else if e.kind = 4 then dayP t (retZ t.land t.base t.rule t.depots t.party e.storm) (retL t.land t.base t.rule t.depots t.party e.storm) (retP t.land t.base t.rule t.depots t.party e.storm)
 else if e.kind = 5 then putP t (layStepZ t.land t.base t.rule t.depots t.party e.n) (layStepL t.land t.base t.rule t.depots t.party e.n) (mayLayP t.land t.base t.rule t.depots t.party e.n)
 else if e.kind = 6 then putP t (takeStepZ t.land t.base t.rule t.depots t.party e.n) (takeStepL t.land t.base t.rule t.depots t.party e.n) (takeStepP t.land t.base t.rule t.depots t.party e.n)
 else False
noncomputable instance (t : DTrek) (e : DEvent) : Decidable (applyP t e) := Classical.propDecidable _
section
variable {t : DTrek} {e : DEvent}
theorem apply_1 (h : e.kind = 1) : applyZ t e = giveZ t e.n /\ applyP t e = giveP t e.n := by simp [applyZ, applyP, h]
theorem apply_2 (h : e.kind = 2) : applyZ t e = dayR t (goStepZ t.land t.base t.rule t.depots t.party e.n e.storm) t.depots (goStepP t.land t.base t.rule t.depots t.party e.n e.storm) /\ applyP t e = dayP t (goStepZ t.land t.base t.rule t.depots t.party e.n e.storm) t.depots (goStepP t.land t.base t.rule t.depots t.party e.n e.storm) := by simp [applyZ, applyP, h]
theorem apply_3 (h : e.kind = 3) : applyZ t e = dayR t (waitStepZ t.land t.base t.rule t.depots t.party e.storm) t.depots (waitStepP t.land t.base t.rule t.depots t.party e.storm) /\ applyP t e = dayP t (waitStepZ t.land t.base t.rule t.depots t.party e.storm) t.depots (waitStepP t.land t.base t.rule t.depots t.party e.storm) := by simp [applyZ, applyP, h]
theorem apply_4 (h : e.kind = 4) : applyZ t e = dayR t (retZ t.land t.base t.rule t.depots t.party e.storm) (retL t.land t.base t.rule t.depots t.party e.storm) (retP t.land t.base t.rule t.depots t.party e.storm) /\ applyP t e = dayP t (retZ t.land t.base t.rule t.depots t.party e.storm) (retL t.land t.base t.rule t.depots t.party e.storm) (retP t.land t.base t.rule t.depots t.party e.storm) := by simp [applyZ, applyP, h]
theorem apply_5 (h : e.kind = 5) : applyZ t e = putR t (layStepZ t.land t.base t.rule t.depots t.party e.n) (layStepL t.land t.base t.rule t.depots t.party e.n) (mayLayP t.land t.base t.rule t.depots t.party e.n) /\ applyP t e = putP t (layStepZ t.land t.base t.rule t.depots t.party e.n) (layStepL t.land t.base t.rule t.depots t.party e.n) (mayLayP t.land t.base t.rule t.depots t.party e.n) := by simp [applyZ, applyP, h]
theorem apply_6 (h : e.kind = 6) : applyZ t e = putR t (takeStepZ t.land t.base t.rule t.depots t.party e.n) (takeStepL t.land t.base t.rule t.depots t.party e.n) (takeStepP t.land t.base t.rule t.depots t.party e.n) /\ applyP t e = putP t (takeStepZ t.land t.base t.rule t.depots t.party e.n) (takeStepL t.land t.base t.rule t.depots t.party e.n) (takeStepP t.land t.base t.rule t.depots t.party e.n) := by simp [applyZ, applyP, h]
theorem apply_0 (h1 : ¬ e.kind = 1) (h2 : ¬ e.kind = 2) (h3 : ¬ e.kind = 3) (h4 : ¬ e.kind = 4) (h5 : ¬ e.kind = 5) (h6 : ¬ e.kind = 6) : applyZ t e = t /\ applyP t e = False := by simp [applyZ, applyP, h1, h2, h3, h4, h5, h6]
theorem dayR_sane {p : DParty} {l : List DDepot} {Q : Prop} (h : t.Sane) (hp : p.Fit) (hl : l.length <= 1048576) : (dayR t p l Q).Sane := by
 unfold dayR; split
 ·exact ⟨dayT_fit h.fit hp hl, hp.at_, hp.food⟩
 ·exact h
theorem putR_sane {p : DParty} {l : List DDepot} {Q : Prop} (h : t.Sane) (hp : Q -> p.Fit) (hl : l.length <= 1048576) : (putR t p l Q).Sane := by
 unfold putR; split
 ·rename_i hq
  have hp := hp hq.1
  exact ⟨putT_fit h.fit ⟨hp.crew, hp.past⟩ hl, hp.at_, hp.food⟩
 ·exact h
theorem applyZ_sane (h : t.Sane) (he : I64 e.n) : (applyZ t e).Sane := by
 have hf := h.fit
 by_cases h1 : e.kind = 1
 ·rw [(apply_1 h1).1, giveZ]; split
  ·exact ⟨giveT_fit hf, h.at_, I64_wrap _⟩
  ·exact h
 by_cases h2 : e.kind = 2
 ·rw [(apply_2 h2).1]; exact dayR_sane h (goStepZ_fit h.party he) hf.depots
 by_cases h3 : e.kind = 3
 ·rw [(apply_3 h3).1]; exact dayR_sane h (waitStepZ_fit h.party) hf.depots
 by_cases h4 : e.kind = 4
 ·rw [(apply_4 h4).1]; exact dayR_sane h (retZ_fit h.party) (Nat.le_trans (retL_len _ _ _ _ _ _) hf.depots)
 by_cases h5 : e.kind = 5
 ·rw [(apply_5 h5).1]
  refine putR_sane h (fun hq => ?_) (layStepL_len hf.depots (by decide))
  have hb := hq.1.1.food
  have hn := hq.1.2
  rw [layStepZ, if_pos hq]
  exact ⟨hf.crew, hf.past, h.at_, by unfold I64; simp only []; omega⟩
 by_cases h6 : e.kind = 6
 ·rw [(apply_6 h6).1]
  refine putR_sane h (fun hq => ?_) (Nat.le_trans (takeStepL_len _ _ _ _ _ _) hf.depots)
  have hb := hq.2.1.food
  have hn := hq.1.2
  have hd := foodAt_bnd hq.1.1.food t.party.at_
  rw [takeStepZ, if_pos hq]
  exact ⟨hf.crew, hf.past, h.at_, by unfold I64; simp only []; omega⟩
 rw [(apply_0 h1 h2 h3 h4 h5 h6).1]; exact h
end
theorem impl_ApplyEvent (t : DTrek) (e : DEvent) (h : t.Sane) (he : I64 e.n) : SC Tryz.prog 307 [.ag t.ats, .ag e.ats] [] (.tp [.ag (applyZ t e).frs, .at (.v (.bool (decide (applyP t e))))]) [] := by
 refine SC.of_W mixed Tryz.func307 (by kernel_rfl) rfl Tryz.results307 _ Tryz.ntmps307 (by simp) ?_
 simp -implicitDefEqProofs only [go_sem]
 refine ⟨fun h1 => ?_, fun h1 => ⟨fun h2 => ?_, fun h2 => ⟨fun h3 => ?_, fun h3 => ⟨fun h4 => ?_, fun h4 => ⟨fun h5 => ?_, fun h5 => ⟨fun h6 => ?_, fun h6 => ?_⟩⟩⟩⟩⟩⟩
 ·simp only [apply_1 h1]
  refine callX [] (impl_StepGive t e.n h.fit) (by simp -implicitDefEqProofs only [go_sem]) ?_
  simp -implicitDefEqProofs only [go_sem]
 ·simp only [apply_2 h2]
  refine callX [] (impl_StepGo t e.n e.storm h he) (by simp -implicitDefEqProofs only [go_sem]) ?_
  simp -implicitDefEqProofs only [go_sem]
 ·simp only [apply_3 h3]
  refine callX [] (impl_StepWait t e.storm h) (by simp -implicitDefEqProofs only [go_sem]) ?_
  simp -implicitDefEqProofs only [go_sem]
 ·simp only [apply_4 h4]
  refine callX [] (impl_StepHome t e.storm h) (by simp -implicitDefEqProofs only [go_sem]) ?_
  simp -implicitDefEqProofs only [go_sem]
 ·simp only [apply_5 h5]
  refine callX [] (impl_StepLay t e.n h.fit) (by simp -implicitDefEqProofs only [go_sem]) ?_
  simp -implicitDefEqProofs only [go_sem]
 ·simp only [apply_6 h6]
  refine callX [] (impl_StepTake t e.n h.fit) (by simp -implicitDefEqProofs only [go_sem]) ?_
  simp -implicitDefEqProofs only [go_sem]
 ·simp only [apply_0 h1 h2 h3 h4 h5 h6]
  refine callX [] (impl_Trek_copied t h.fit) (by simp -implicitDefEqProofs only [go_sem]) ?_
  simp -implicitDefEqProofs only [go_sem]
end Go.Abs
