/- Events of an expedition. -/
import Derived.Test.YtmiajpljlkdhcaaGreatDoorAStpY
import Derived.Test.YtmiajpljlkdhcaaGreatDoorAStpW
import Derived.Test.YtmiajpljlkdhcaaGreatDoorAStpH
import Derived.Test.YtmiajpljlkdhcaaGreatDoorAStpL
import Derived.Test.YtmiajpljlkdhcaaGreatDoorAHomeEv
namespace Go.Abs
open Go.RowKit Go.Proofs
set_option linter.unusedVariables false
set_option linter.unusedSimpArgs false
set_option maxRecDepth 100000
set_option maxHeartbeats 4000000

noncomputable def applyZ (t : DTrek) (e : DEvent) : DTrek :=
  if e.kind = 1 then giveZ t e.n
  else if e.kind = 2 then dayR t (goStepZ t.land t.base t.rule t.depots t.party e.n e.storm) t.depots (goStepP t.land t.base t.rule t.depots t.party e.n e.storm)
  else if e.kind = 3 then dayR t (waitStepZ t.land t.base t.rule t.depots t.party e.storm) t.depots (waitStepP t.land t.base t.rule t.depots t.party e.storm)
  else if e.kind = 4 then dayR t (retZ t.land t.base t.rule t.depots t.party e.storm) (retL t.land t.base t.rule t.depots t.party e.storm) (retP t.land t.base t.rule t.depots t.party e.storm)
  else if e.kind = 5 then putR t (layStepZ t.land t.base t.rule t.depots t.party e.n) (layStepL t.land t.base t.rule t.depots t.party e.n) (mayLayP t.land t.base t.rule t.depots t.party e.n)
  else if e.kind = 6 then putR t (takeStepZ t.land t.base t.rule t.depots t.party e.n) (takeStepL t.land t.base t.rule t.depots t.party e.n) (takeStepP t.land t.base t.rule t.depots t.party e.n)
  else t
def applyP (t : DTrek) (e : DEvent) : Prop :=
  if e.kind = 1 then giveP t e.n
  else if e.kind = 2 then dayP t (goStepZ t.land t.base t.rule t.depots t.party e.n e.storm) t.depots (goStepP t.land t.base t.rule t.depots t.party e.n e.storm)
  else if e.kind = 3 then dayP t (waitStepZ t.land t.base t.rule t.depots t.party e.storm) t.depots (waitStepP t.land t.base t.rule t.depots t.party e.storm)
  else if e.kind = 4 then dayP t (retZ t.land t.base t.rule t.depots t.party e.storm) (retL t.land t.base t.rule t.depots t.party e.storm) (retP t.land t.base t.rule t.depots t.party e.storm)
  else if e.kind = 5 then putP t (layStepZ t.land t.base t.rule t.depots t.party e.n) (layStepL t.land t.base t.rule t.depots t.party e.n) (mayLayP t.land t.base t.rule t.depots t.party e.n)
  else if e.kind = 6 then putP t (takeStepZ t.land t.base t.rule t.depots t.party e.n) (takeStepL t.land t.base t.rule t.depots t.party e.n) (takeStepP t.land t.base t.rule t.depots t.party e.n)
  else False
noncomputable instance (t : DTrek) (e : DEvent) : Decidable (applyP t e) := Classical.propDecidable _
section
variable {t : DTrek} {e : DEvent}
theorem apply_1 (h : e.kind = 1) : applyZ t e = giveZ t e.n ∧ applyP t e = giveP t e.n := by simp [applyZ, applyP, h]
theorem apply_2 (h : e.kind = 2) : applyZ t e = dayR t (goStepZ t.land t.base t.rule t.depots t.party e.n e.storm) t.depots (goStepP t.land t.base t.rule t.depots t.party e.n e.storm) ∧ applyP t e = dayP t (goStepZ t.land t.base t.rule t.depots t.party e.n e.storm) t.depots (goStepP t.land t.base t.rule t.depots t.party e.n e.storm) := by simp [applyZ, applyP, h]
theorem apply_3 (h : e.kind = 3) : applyZ t e = dayR t (waitStepZ t.land t.base t.rule t.depots t.party e.storm) t.depots (waitStepP t.land t.base t.rule t.depots t.party e.storm) ∧ applyP t e = dayP t (waitStepZ t.land t.base t.rule t.depots t.party e.storm) t.depots (waitStepP t.land t.base t.rule t.depots t.party e.storm) := by simp [applyZ, applyP, h]
theorem apply_4 (h : e.kind = 4) : applyZ t e = dayR t (retZ t.land t.base t.rule t.depots t.party e.storm) (retL t.land t.base t.rule t.depots t.party e.storm) (retP t.land t.base t.rule t.depots t.party e.storm) ∧ applyP t e = dayP t (retZ t.land t.base t.rule t.depots t.party e.storm) (retL t.land t.base t.rule t.depots t.party e.storm) (retP t.land t.base t.rule t.depots t.party e.storm) := by simp [applyZ, applyP, h]
theorem apply_5 (h : e.kind = 5) : applyZ t e = putR t (layStepZ t.land t.base t.rule t.depots t.party e.n) (layStepL t.land t.base t.rule t.depots t.party e.n) (mayLayP t.land t.base t.rule t.depots t.party e.n) ∧ applyP t e = putP t (layStepZ t.land t.base t.rule t.depots t.party e.n) (layStepL t.land t.base t.rule t.depots t.party e.n) (mayLayP t.land t.base t.rule t.depots t.party e.n) := by simp [applyZ, applyP, h]
theorem apply_6 (h : e.kind = 6) : applyZ t e = putR t (takeStepZ t.land t.base t.rule t.depots t.party e.n) (takeStepL t.land t.base t.rule t.depots t.party e.n) (takeStepP t.land t.base t.rule t.depots t.party e.n) ∧ applyP t e = putP t (takeStepZ t.land t.base t.rule t.depots t.party e.n) (takeStepL t.land t.base t.rule t.depots t.party e.n) (takeStepP t.land t.base t.rule t.depots t.party e.n) := by simp [applyZ, applyP, h]
theorem apply_0 (h1 : ¬ e.kind = 1) (h2 : ¬ e.kind = 2) (h3 : ¬ e.kind = 3) (h4 : ¬ e.kind = 4) (h5 : ¬ e.kind = 5) (h6 : ¬ e.kind = 6) : applyZ t e = t ∧ applyP t e = False := by simp [applyZ, applyP, h1, h2, h3, h4, h5, h6]
theorem dayR_sane {p : DParty} {l : List DDepot} {Q : Prop} (h : t.Sane) (hp : p.Fit) (hl : l.length ≤ 1048576) : (dayR t p l Q).Sane := by
  unfold dayR; split
  · exact ⟨dayT_fit h.fit hp hl, hp.at_, hp.food⟩
  · exact h
theorem putR_sane {p : DParty} {l : List DDepot} {Q : Prop} (h : t.Sane) (hp : Q → p.Fit) (hl : l.length ≤ 1048576) : (putR t p l Q).Sane := by
  unfold putR; split
  · rename_i hq
    have hp := hp hq.1
    exact ⟨putT_fit h.fit ⟨hp.crew, hp.past⟩ hl, hp.at_, hp.food⟩
  · exact h
theorem applyZ_sane (h : t.Sane) (he : I64 e.n) : (applyZ t e).Sane := by
  have hf := h.fit
  by_cases h1 : e.kind = 1
  · rw [(apply_1 h1).1, giveZ]; split
    · exact ⟨giveT_fit hf, h.at_, I64_wrap _⟩
    · exact h
  by_cases h2 : e.kind = 2
  · rw [(apply_2 h2).1]; exact dayR_sane h (goStepZ_fit h.party he) hf.depots
  by_cases h3 : e.kind = 3
  · rw [(apply_3 h3).1]; exact dayR_sane h (waitStepZ_fit h.party) hf.depots
  by_cases h4 : e.kind = 4
  · rw [(apply_4 h4).1]; exact dayR_sane h (retZ_fit h.party) (Nat.le_trans (retL_len _ _ _ _ _ _) hf.depots)
  by_cases h5 : e.kind = 5
  · rw [(apply_5 h5).1]
    refine putR_sane h (fun hq => ?_) (layStepL_len hf.depots (by decide))
    have hb := hq.1.1.food
    have hn := hq.1.2
    rw [layStepZ, if_pos hq]
    exact ⟨hf.crew, hf.past, h.at_, by unfold I64; simp only []; omega⟩
  by_cases h6 : e.kind = 6
  · rw [(apply_6 h6).1]
    refine putR_sane h (fun hq => ?_) (Nat.le_trans (takeStepL_len _ _ _ _ _ _) hf.depots)
    have hb := hq.2.1.food
    have hn := hq.1.2
    have hd := foodAt_bnd hq.1.1.food t.party.at_
    rw [takeStepZ, if_pos hq]
    exact ⟨hf.crew, hf.past, h.at_, by unfold I64; simp only []; omega⟩
  rw [(apply_0 h1 h2 h3 h4 h5 h6).1]; exact h
end
theorem spec_ApplyEvent (t : DTrek) (e : DEvent) (h : t.Sane) (he : I64 e.n) : SC Tryz.prog 48 [.ag t.ats, .ag e.ats] [] (.tp [.ag (applyZ t e).frs, .at (.v (.bool (decide (applyP t e))))]) [] := by
  refine SC.of_W mixed Tryz.func48 (by kernel_rfl) rfl Tryz.results48 _ Tryz.ntmps48 (by simp) ?_
  simp -implicitDefEqProofs only [go_sem]
  refine ⟨fun h1 => ?_, fun h1 => ⟨fun h2 => ?_, fun h2 => ⟨fun h3 => ?_, fun h3 => ⟨fun h4 => ?_, fun h4 => ⟨fun h5 => ?_, fun h5 => ⟨fun h6 => ?_, fun h6 => ?_⟩⟩⟩⟩⟩⟩
  · simp only [apply_1 h1]
    refine callX [] (spec_StepGive t e.n h.fit) (by simp -implicitDefEqProofs only [go_sem]) ?_
    simp -implicitDefEqProofs only [go_sem]
  · simp only [apply_2 h2]
    refine callX [] (spec_StepGo t e.n e.storm h he) (by simp -implicitDefEqProofs only [go_sem]) ?_
    simp -implicitDefEqProofs only [go_sem]
  · simp only [apply_3 h3]
    refine callX [] (spec_StepWait t e.storm h) (by simp -implicitDefEqProofs only [go_sem]) ?_
    simp -implicitDefEqProofs only [go_sem]
  · simp only [apply_4 h4]
    refine callX [] (spec_StepHome t e.storm h) (by simp -implicitDefEqProofs only [go_sem]) ?_
    simp -implicitDefEqProofs only [go_sem]
  · simp only [apply_5 h5]
    refine callX [] (spec_StepLay t e.n h.fit) (by simp -implicitDefEqProofs only [go_sem]) ?_
    simp -implicitDefEqProofs only [go_sem]
  · simp only [apply_6 h6]
    refine callX [] (spec_StepTake t e.n h.fit) (by simp -implicitDefEqProofs only [go_sem]) ?_
    simp -implicitDefEqProofs only [go_sem]
  · simp only [apply_0 h1 h2 h3 h4 h5 h6]
    refine callX [] (spec_l33Copy t h.fit) (by simp -implicitDefEqProofs only [go_sem]) ?_
    simp -implicitDefEqProofs only [go_sem]
/-! ### What the steps leave fits -/
theorem fit_40 {t : DTrek} (h : t.Fit) : t.land.cells.length ≤ 1099511627776 ∧ t.depots.length ≤ 1099511627776 ∧ t.party.crew.length ≤ 1099511627776 ∧ t.party.past.length ≤ 1099511627776 ∧ t.journal.length ≤ 1099511627776 :=
  ⟨Nat.le_trans h.cells (by decide), Nat.le_trans h.depots (by decide), Nat.le_trans h.crew (by decide), Nat.le_trans h.past (by decide), Nat.le_trans h.journal (by decide)⟩
theorem Nat.le_mega {n N : Nat} (h : n ≤ 1048576) (hN : 1048576 ≤ N) : n ≤ N := Nat.le_trans h hN
theorem giveZ_fit {t : DTrek} {n : Int} (h : t.Fit) : (giveZ t n).Fit := by
  unfold giveZ; split
  · exact giveT_fit h
  · exact h
theorem goR_fit {t : DTrek} {to : Int} {s : Bool} (h : t.Sane) (hto : I64 to) : (dayR t (goStepZ t.land t.base t.rule t.depots t.party to s) t.depots (goStepP t.land t.base t.rule t.depots t.party to s)).Fit := (dayR_sane h (goStepZ_fit h.party hto) h.fit.depots).fit
theorem waitR_fit {t : DTrek} {s : Bool} (h : t.Sane) : (dayR t (waitStepZ t.land t.base t.rule t.depots t.party s) t.depots (waitStepP t.land t.base t.rule t.depots t.party s)).Fit := (dayR_sane h (waitStepZ_fit h.party) h.fit.depots).fit
theorem homeR_fit {t : DTrek} {s : Bool} (h : t.Sane) : (dayR t (retZ t.land t.base t.rule t.depots t.party s) (retL t.land t.base t.rule t.depots t.party s) (retP t.land t.base t.rule t.depots t.party s)).Fit := (dayR_sane h (retZ_fit h.party) (Nat.le_trans (retL_len _ _ _ _ _ _) h.fit.depots)).fit
theorem putR_fit {t : DTrek} {p : DParty} {l : List DDepot} {Q : Prop} (h : t.Fit) (hp : p.crew.length ≤ 1048576 ∧ p.past.length ≤ 1048576) (hl : l.length ≤ 1048576) : (putR t p l Q).Fit := by
  unfold putR; split
  · exact putT_fit h hp hl
  · exact h
theorem layR_fit {t : DTrek} {n : Int} {Q : Prop} (h : t.Fit) : (putR t (layStepZ t.land t.base t.rule t.depots t.party n) (layStepL t.land t.base t.rule t.depots t.party n) Q).Fit := putR_fit h ⟨layStepZ_c h.crew, layStepZ_p h.past⟩ (layStepL_len h.depots (by decide))
theorem takeR_fit {t : DTrek} {n : Int} {Q : Prop} (h : t.Fit) : (putR t (takeStepZ t.land t.base t.rule t.depots t.party n) (takeStepL t.land t.base t.rule t.depots t.party n) Q).Fit := putR_fit h ⟨takeStepZ_c h.crew, takeStepZ_p h.past⟩ (Nat.le_trans (takeStepL_len _ _ _ _ _ _) h.depots)
end Go.Abs
