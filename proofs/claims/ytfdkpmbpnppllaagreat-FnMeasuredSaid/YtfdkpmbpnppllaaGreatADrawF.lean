/- Expeditions behind some events, as they are drawn: some with a fault; the pages of journals. -/
import Derived.Test.YtfdkpmbpnppllaaGreatADrawE
import Derived.Test.YtfdkpmbpnppllaaGreatAEvtZ
namespace Go.Abs
open Go.RowKit Go.Proofs
set_option linter.unusedVariables false
set_option linter.unusedSimpArgs false
set_option maxRecDepth 100000
set_option maxHeartbeats 4000000

noncomputable def runX (code : List Int) : DTrek := runZ (runT0 code) (runL code)
theorem runX_ok {code : List Int} (h : code.length ≤ 1099511627776) : (runX code).Sane ∧ 0 ≤ (runX code).day ∧ (runX code).day ≤ 14 := by
  have h1 := run36_ok h
  have h2 := run_day (runL code) (runT0 code)
  have h3 : (runT0 code).day = 0 := newTrekZ_party.2.2.2.2.2.1
  have h4 := h1.2.2.2.2.2.2.1
  refine ⟨run_sane _ _ h1.1.sane fun e he => (h1.2.2.2.2.2.1 e he).1.i64, ?_, ?_⟩
  · show 0 ≤ (runZ (runT0 code) (runL code)).day; omega
  · show (runZ (runT0 code) (runL code)).day ≤ 14; omega
noncomputable def k36 (code : List Int) : Int := belowV (newCur code) 9
noncomputable def x36 (code : List Int) : DTrek :=
  if k36 code = 0 then { runX code with given := IntKind.i64.wrap ((runX code).given + 1) }
  else if k36 code = 1 then { runX code with party := { (runX code).party with past := (runX code).party.past ++ [true, true] } }
  else if k36 code = 2 then { runX code with day := IntKind.i64.wrap ((runX code).day + 1) }
  else if k36 code = 3 then { runX code with party := { (runX code).party with food := 0 }, eaten := IntKind.i64.wrap ((runX code).given - foodZ (runX code).depots) }
  else runX code
section
variable {code : List Int}
theorem x36_0 (h : k36 code = 0) : x36 code = { runX code with given := IntKind.i64.wrap ((runX code).given + 1) } := if_pos h
theorem x36_1 (h0 : ¬ k36 code = 0) (h : k36 code = 1) : x36 code = { runX code with party := { (runX code).party with past := (runX code).party.past ++ [true, true] } } := by rw [x36, if_neg h0, if_pos h]
theorem x36_2 (h0 : ¬ k36 code = 0) (h1 : ¬ k36 code = 1) (h : k36 code = 2) : x36 code = { runX code with day := IntKind.i64.wrap ((runX code).day + 1) } := by rw [x36, if_neg h0, if_neg h1, if_pos h]
theorem x36_3 (h0 : ¬ k36 code = 0) (h1 : ¬ k36 code = 1) (h2 : ¬ k36 code = 2) (h : k36 code = 3) : x36 code = { runX code with party := { (runX code).party with food := 0 }, eaten := IntKind.i64.wrap ((runX code).given - foodZ (runX code).depots) } := by rw [x36, if_neg h0, if_neg h1, if_neg h2, if_pos h]
theorem x36_4 (h0 : ¬ k36 code = 0) (h1 : ¬ k36 code = 1) (h2 : ¬ k36 code = 2) (h : ¬ k36 code = 3) : x36 code = runX code := by rw [x36, if_neg h0, if_neg h1, if_neg h2, if_neg h]
end
theorem apply_past {t : DTrek} {e : DEvent} (h : t.party.past.length ≤ 10) : (applyZ t e).party.past.length ≤ 10 := by
  have hd : ∀ (p : DParty) (l : List DDepot) (Q : Prop), p.past.length ≤ 10 → (dayR t p l Q).party.past.length ≤ 10 := by
    intro p l Q hp
    unfold dayR
    split
    · exact hp
    · exact h
  have hq : ∀ (p : DParty) (l : List DDepot) (Q : Prop), p.past.length ≤ 10 → (putR t p l Q).party.past.length ≤ 10 := by
    intro p l Q hp
    unfold putR
    split
    · exact hp
    · exact h
  by_cases h1 : e.kind = 1
  · rw [(apply_1 h1).1, giveZ]; split <;> exact h
  by_cases h2 : e.kind = 2
  · rw [(apply_2 h2).1]
    refine hd _ _ _ ?_
    rw [goStepZ]; split
    · exact addDay_len _ _
    · exact h
  by_cases h3 : e.kind = 3
  · rw [(apply_3 h3).1]
    refine hd _ _ _ ?_
    rw [waitStepZ]; split
    · exact addDay_len _ _
    · exact h
  by_cases h4 : e.kind = 4
  · rw [(apply_4 h4).1]
    refine hd _ _ _ ?_
    rw [retZ]; split
    · exact addDay_len _ _
    · exact h
  by_cases h5 : e.kind = 5
  · rw [(apply_5 h5).1]
    refine hq _ _ _ ?_
    rw [layStepZ]; split <;> exact h
  by_cases h6 : e.kind = 6
  · rw [(apply_6 h6).1]
    refine hq _ _ _ ?_
    rw [takeStepZ]; split <;> exact h
  · rw [(apply_0 h1 h2 h3 h4 h5 h6).1]; exact h
theorem run_past : ∀ (l : List DEvent) (t : DTrek), t.party.past.length ≤ 10 → (runZ t l).party.past.length ≤ 10 := by
  intro l
  induction l with
  | nil => intro t h; exact h
  | cons e l ih => intro t h; exact ih (applyZ t e) (apply_past h)
theorem runX_past (code : List Int) : (runX code).party.past.length ≤ 10 := by
  refine run_past _ _ ?_
  have h : (runT0 code).party.past = [] := newTrekZ_party.2.2.2.2.1
  rw [h]; exact Nat.zero_le _
theorem x36_ok {code : List Int} (h : code.length ≤ 1099511627776) : (x36 code).Sane ∧ (x36 code).day ≤ 15 := by
  have hx := runX_ok h
  have hp := runX_past code
  have hf := hx.1.fit
  unfold x36
  split
  · exact ⟨⟨⟨hf.cells, hf.depots, hf.crew, hf.past, hf.journal, hf.pages⟩, hx.1.at_, hx.1.food⟩, by simp only []; omega⟩
  split
  · exact ⟨⟨⟨hf.cells, hf.depots, hf.crew, by simp; omega, hf.journal, hf.pages⟩, hx.1.at_, hx.1.food⟩, by simp only []; omega⟩
  split
  · exact ⟨⟨⟨hf.cells, hf.depots, hf.crew, hf.past, hf.journal, hf.pages⟩, hx.1.at_, hx.1.food⟩, by simp only []; rw [wrap64 (by omega) (by omega)]; omega⟩
  split
  · exact ⟨⟨⟨hf.cells, hf.depots, hf.crew, hf.past, hf.journal, hf.pages⟩, hx.1.at_, by unfold I64; simp⟩, by simp only []; omega⟩
  · exact ⟨hx.1, by omega⟩
theorem spec_l36Draw (code : List Int) (hl : code.length ≤ 1099511627776) : SC Tryz.prog 99 [.at (.im 1 (code.map byteRow))] [] (.ag (x36 code).frs) [] := by
  have hr := run36_ok hl
  have hx := runX_ok hl
  have hn := newCur_ok hl
  have hf := hx.1.fit
  refine SC.of_W mixed Tryz.func99 (by kernel_rfl) rfl Tryz.results99 _ Tryz.ntmps99 (by simp) ?_
  simp -implicitDefEqProofs only [go_sem]
  refine callX [] ((spec_DrawRunEvents code hl).frozen) (by simp -implicitDefEqProofs only [go_sem]) ?_
  simp -implicitDefEqProofs only [go_sem]
  refine callX [] (spec_RunEvents (runT0 code) (runL code) hr.1.sane (by omega) (fun e he => (hr.2.2.2.2.2.1 e he).1.i64)) (by simp -implicitDefEqProofs only [go_sem]) ?_
  simp -implicitDefEqProofs only [go_sem]
  rw [show runZ (runT0 code) (runL code) = runX code from rfl]
  refine callX [] (spec_l1New code hl) (by simp -implicitDefEqProofs only [go_sem]) ?_
  simp -implicitDefEqProofs only [go_sem]
  refine callXNB [1256] [] (spec_l1Below (newCur code) 9 hn) (by decide) (by simp -implicitDefEqProofs only [go_sem]) (by simp -implicitDefEqProofs only [go_sem]) ?_
  simp -implicitDefEqProofs only [go_sem]
  rw [show belowV (newCur code) 9 = k36 code from rfl]
  refine ⟨fun k0 => ?_, fun k0 => ⟨fun k1 => ?_, fun k1 => ⟨fun k2 => ?_, fun k2 => ⟨fun k3 => ?_, fun k3 => ?_⟩⟩⟩⟩
  · rw [x36_0 k0]
    repeat' (first | apply And.intro | rfl)
  · rw [x36_1 k0 k1]
    have hpp := runX_past code
    refine ⟨room_s (by omega) (by decide), ?_⟩
    repeat' (first | apply And.intro | rfl | simp [boolRow])
  · rw [x36_2 k0 k1 k2]
    repeat' (first | apply And.intro | rfl)
  · rw [x36_3 k0 k1 k2 k3]
    refine ⟨some [], by decide +kernel, ?_⟩
    simp -implicitDefEqProofs only [go_sem]
    refine callXQ [1225] (spec_TotalFood (runX code).depots hf.depots) (by simp -implicitDefEqProofs only [go_sem]) ?_
    simp -implicitDefEqProofs only [go_sem]
    repeat' (first | apply And.intro | rfl)
  · rw [x36_4 k0 k1 k2 k3]
    repeat' (first | apply And.intro | rfl)
/-! ### An expedition and an event -/
noncomputable def ae (code : List Int) : DEvent × DCur := one35 (d34 code).2 (d34 code).1.land.cells.length
noncomputable def aeE (code : List Int) : DEvent := if onceV (ae code).2 9 = true then { (ae code).1 with kind := IntKind.i64.wrap (belowV (belowS (ae code).2 9) 9 - 1) } else (ae code).1
theorem ae_ok {code : List Int} (h : code.length ≤ 1099511627776) : I64 (ae code).1.n ∧ (ae code).2.Ok := by
  have h1 := d34_ok h
  have hc := h1.1.fit.cells
  have := one35_ok (n := (d34 code).1.land.cells.length) h1.2 (by omega)
  exact ⟨this.1.1.i64, this.2⟩
theorem aeE_n {code : List Int} (h : code.length ≤ 1099511627776) : I64 (aeE code).n := by
  have := (ae_ok h).1
  unfold aeE
  split <;> exact this
theorem spec_DrawApplyEvent (code : List Int) (hl : code.length ≤ 1099511627776) : SC Tryz.prog 31 [.at (.im 1 (code.map byteRow))] [] (.tp [.ag (d34 code).1.ats, .ag (aeE code).ats]) [] := by
  have h1 := d34_ok hl
  have h2 := ae_ok hl
  have hc := h1.1.fit.cells
  refine SC.of_W mixed Tryz.func31 (by kernel_rfl) rfl Tryz.results31 _ Tryz.ntmps31 (by simp) ?_
  simp -implicitDefEqProofs only [go_sem]
  refine callX [] (spec_l1New code hl) (by simp -implicitDefEqProofs only [go_sem]) ?_
  simp -implicitDefEqProofs only [go_sem]
  refine callXNB [1128] [] (spec_l34Draw (newCur code) (newCur_ok hl)) (by decide) (by simp -implicitDefEqProofs only [go_sem]) (by simp -implicitDefEqProofs only [go_sem]) ?_
  simp -implicitDefEqProofs only [go_sem]
  rw [show draw34 (newCur code) = d34 code from rfl]
  refine callXNB [1128] [] (spec_l35One (d34 code).2 (d34 code).1.land h1.2 (by omega)) (by decide) (by simp -implicitDefEqProofs only [go_sem]) (by simp -implicitDefEqProofs only [go_sem]) ?_
  simp -implicitDefEqProofs only [go_sem]
  rw [show one35 (d34 code).2 (d34 code).1.land.cells.length = ae code from rfl]
  refine callXNB [1128] [] (spec_l1Once (ae code).2 9 h2.2) (by decide) (by simp -implicitDefEqProofs only [go_sem]) (by simp -implicitDefEqProofs only [go_sem]) ?_
  simp -implicitDefEqProofs only [go_sem]
  refine ⟨fun k => ?_, fun k => ?_⟩
  · have e : aeE code = { (ae code).1 with kind := IntKind.i64.wrap (belowV (belowS (ae code).2 9) 9 - 1) } := if_pos k
    rw [e]
    refine callXNB [1128] [] (spec_l1Below (belowS (ae code).2 9) 9 (belowS_ok h2.2 9)) (by decide) (by simp -implicitDefEqProofs only [go_sem]) (by simp -implicitDefEqProofs only [go_sem]) ?_
    simp -implicitDefEqProofs only [go_sem]
    refine ⟨some [1032, 1048], by decide +kernel, ?_⟩
    simp -implicitDefEqProofs only [go_sem]
    repeat' (first | apply And.intro | rfl)
  · have e : aeE code = (ae code).1 := if_neg (by rw [k]; decide)
    rw [e]
    refine ⟨some [1032, 1048], by decide +kernel, ?_⟩
    simp -implicitDefEqProofs only [go_sem]
noncomputable def heT (code : List Int) : DTrek := if (code.length : Int).tmod 9 = 1 then { runX code with day := -1 } else runX code
theorem heT_ok {code : List Int} (h : code.length ≤ 1099511627776) : (heT code).Sane ∧ (heT code).day ≤ 14 := by
  have hx := runX_ok h
  have hf := hx.1.fit
  unfold heT
  split
  · exact ⟨⟨⟨hf.cells, hf.depots, hf.crew, hf.past, hf.journal, hf.pages⟩, hx.1.at_, hx.1.food⟩, by simp⟩
  · exact ⟨hx.1, hx.2.2⟩
theorem spec_DrawHomeEvents (code : List Int) (hl : code.length ≤ 1099511627776) : SC Tryz.prog 28 [.at (.im 1 (code.map byteRow))] [] (.ag (heT code).ats) [] := by
  have hr := run36_ok hl
  refine SC.of_W mixed Tryz.func28 (by kernel_rfl) rfl Tryz.results28 _ Tryz.ntmps28 (by simp) ?_
  simp -implicitDefEqProofs only [go_sem]
  refine callX [] ((spec_DrawRunEvents code hl).frozen) (by simp -implicitDefEqProofs only [go_sem]) ?_
  simp -implicitDefEqProofs only [go_sem]
  refine callX [] ((spec_RunEvents (runT0 code) (runL code) hr.1.sane (by omega) (fun e he => (hr.2.2.2.2.2.1 e he).1.i64)).frozen) (by simp -implicitDefEqProofs only [go_sem]) ?_
  simp -implicitDefEqProofs only [go_sem]
  rw [show runZ (runT0 code) (runL code) = runX code from rfl]
  refine ⟨fun k => ?_, fun k => ?_⟩
  · have e : heT code = { runX code with day := -1 } := if_pos k
    rw [e]
    repeat' (first | apply And.intro | rfl)
  · have e : heT code = runX code := if_neg k
    rw [e]
    repeat' (first | apply And.intro | rfl)
theorem spec_DrawFaultOf (code : List Int) (hl : code.length ≤ 1099511627776) : SC Tryz.prog 34 [.at (.im 1 (code.map byteRow))] [] (.ag (x36 code).ats) [] := by
  refine SC.of_W mixed Tryz.func34 (by kernel_rfl) rfl Tryz.results34 _ Tryz.ntmps34 (by simp) ?_
  simp -implicitDefEqProofs only [go_sem]
  refine callX [] ((spec_l36Draw code hl).frozen) (by simp -implicitDefEqProofs only [go_sem]) ?_
  simp -implicitDefEqProofs only [go_sem]
theorem spec_DrawFoodLeftShare (code : List Int) (hl : code.length ≤ 1099511627776) : SC Tryz.prog 48 [.at (.im 1 (code.map byteRow))] [] (.ag (x36 code).ats) [] := by
  refine SC.of_W mixed Tryz.func48 (by kernel_rfl) rfl Tryz.results48 _ Tryz.ntmps48 (by simp) ?_
  simp -implicitDefEqProofs only [go_sem]
  refine callX [] ((spec_l36Draw code hl).frozen) (by simp -implicitDefEqProofs only [go_sem]) ?_
  simp -implicitDefEqProofs only [go_sem]
end Go.Abs
