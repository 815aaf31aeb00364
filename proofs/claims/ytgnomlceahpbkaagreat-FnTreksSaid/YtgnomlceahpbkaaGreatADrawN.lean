/- The draws of the law of new expeditions. -/
import Derived.Test.YtgnomlceahpbkaaGreatADrawT
import Derived.Test.YtgnomlceahpbkaaGreatAFrz
namespace Go.Abs
open Go.RowKit Go.Proofs
set_option linter.unusedVariables false
set_option linter.unusedSimpArgs false
set_option maxRecDepth 100000
set_option maxHeartbeats 4000000

def ntA (code : List Int) : DLand × DCur := anyF (newCur code)
noncomputable def ntR (code : List Int) : (DRule × List Bool) × DCur := any6 (ntA code).2
noncomputable def ntB (code : List Int) : Int := intV (ntR code).2 [0, 0, 1, 5, 40]
noncomputable def ntM (code : List Int) : List DMember × DCur := any7 (intC (ntR code).2 [0, 0, 1, 5, 40])
theorem nt_ok {code : List Int} (h : code.length ≤ 1099511627776) : (newCur code).Ok ∧ (ntA code).2.Ok ∧ (ntR code).2.Ok ∧ (intC (ntR code).2 [0, 0, 1, 5, 40]).Ok ∧ (ntA code).1.cells.length ≤ 30 ∧ (ntM code).1.length ≤ 5 := by
  have h0 := newCur_ok h
  have h1 := anyF_ok h0
  have h2 := any6_ok h1.2
  have h3 := intC_ok h2.2 [0, 0, 1, 5, 40]
  exact ⟨h0, h1.2, h2.2, h3, h1.1, (any7_ok h3).1⟩
theorem spec_DrawNewTrek (code : List Int) (hl : code.length ≤ 1099511627776) : SC Tryz.prog 46 [.at (.im 1 (code.map byteRow))] [] (.tp [.ag (ntA code).1.frs, .at (.v (.int .i64 (ntB code))), .ag (ntR code).1.1.ats, .at (.fr 4 ((ntM code).1.map DMember.row))]) [] := by
  have h := nt_ok hl
  refine SC.of_W mixed Tryz.func46 (by kernel_rfl) rfl Tryz.results46 _ Tryz.ntmps46 (by simp) ?_
  simp -implicitDefEqProofs only [go_sem]
  refine callX [] (spec_l1New code hl) (by simp -implicitDefEqProofs only [go_sem]) ?_
  simp -implicitDefEqProofs only [go_sem]
  refine callXNB [1192] [] (spec_l4Any (newCur code) h.1) (by decide) (by simp -implicitDefEqProofs only [go_sem]) (by simp -implicitDefEqProofs only [go_sem]) ?_
  simp -implicitDefEqProofs only [go_sem]
  rw [show anyF (newCur code) = ntA code from rfl]
  refine callXNB [1192] [] (spec_l6Any (ntA code).2 h.2.1) (by decide) (by simp -implicitDefEqProofs only [go_sem]) (by simp -implicitDefEqProofs only [go_sem]) ?_
  simp -implicitDefEqProofs only [go_sem]
  rw [show any6 (ntA code).2 = ntR code from rfl]
  refine callXNB [1192] [1336] (spec_l1Int (ntR code).2 [0, 0, 1, 5, 40] h.2.2.1 (by simp) (by simp)) (by decide) (by simp -implicitDefEqProofs only [go_sem]) (by simp -implicitDefEqProofs only [go_sem]) ?_
  simp -implicitDefEqProofs only [go_sem]
  rw [show intV (ntR code).2 [0, 0, 1, 5, 40] = ntB code from rfl]
  refine ⟨some [1192, 1032, 1064], by decide +kernel, ?_⟩
  simp -implicitDefEqProofs only [go_sem]
  refine callXNQ [1192] [] (by decide) (spec_l7Any (intC (ntR code).2 [0, 0, 1, 5, 40]) h.2.2.2.1) (by decide) (by simp -implicitDefEqProofs only [go_sem]) (by simp -implicitDefEqProofs only [go_sem]) ?_
  simp -implicitDefEqProofs only [go_sem]
  exact ⟨rfl, rfl⟩
theorem spec_DrawIsTrek (code : List Int) (hl : code.length ≤ 1099511627776) : SC Tryz.prog 54 [.at (.im 1 (code.map byteRow))] [] (.ag (any33 (newCur code)).1.frs) [] := by
  have h := newCur_ok hl
  refine SC.of_W mixed Tryz.func54 (by kernel_rfl) rfl Tryz.results54 _ Tryz.ntmps54 (by simp) ?_
  simp -implicitDefEqProofs only [go_sem]
  refine callX [] (spec_l1New code hl) (by simp -implicitDefEqProofs only [go_sem]) ?_
  simp -implicitDefEqProofs only [go_sem]
  refine callXNB [1080] [] (spec_l33Any (newCur code) h) (by decide) (by simp -implicitDefEqProofs only [go_sem]) (by simp -implicitDefEqProofs only [go_sem]) ?_
  simp -implicitDefEqProofs only [go_sem]
noncomputable def eqA (code : List Int) : DTrek × DCur := any33 (newCur code)
noncomputable def eqK (code : List Int) : Int := belowV (eqA code).2 5
noncomputable def eqB (code : List Int) : DTrek :=
  if eqK code = 0 then (any33 (belowS (eqA code).2 5)).1
  else if eqK code = 1 then { (eqA code).1 with day := IntKind.i64.wrap ((eqA code).1.day + 1) }
  else if eqK code = 2 then { (eqA code).1 with depots := (eqA code).1.depots ++ [⟨1, 1⟩] }
  else (eqA code).1
theorem eqB_0 {code : List Int} (h : eqK code = 0) : eqB code = (any33 (belowS (eqA code).2 5)).1 := if_pos h
theorem eqB_1 {code : List Int} (h0 : ¬ eqK code = 0) (h : eqK code = 1) : eqB code = { (eqA code).1 with day := IntKind.i64.wrap ((eqA code).1.day + 1) } := by rw [eqB, if_neg h0, if_pos h]
theorem eqB_2 {code : List Int} (h0 : ¬ eqK code = 0) (h1 : ¬ eqK code = 1) (h : eqK code = 2) : eqB code = { (eqA code).1 with depots := (eqA code).1.depots ++ [⟨1, 1⟩] } := by rw [eqB, if_neg h0, if_neg h1, if_pos h]
theorem eqB_3 {code : List Int} (h0 : ¬ eqK code = 0) (h1 : ¬ eqK code = 1) (h : ¬ eqK code = 2) : eqB code = (eqA code).1 := by rw [eqB, if_neg h0, if_neg h1, if_neg h]
theorem cur_plain {y : DCur} : ∀ e ∈ [Ent.box 0 y.ats], e.plain = true := by simp [Ent.plain, DCur.ats, A.plain]
theorem spec_DrawEqualTreks (code : List Int) (hl : code.length ≤ 1099511627776) : SC Tryz.prog 55 [.at (.im 1 (code.map byteRow))] [] (.tp [.ag (eqA code).1.ats, .ag (eqB code).frs]) [] := by
  have h := newCur_ok hl
  have h1 := any33_ok h
  refine SC.of_W mixed Tryz.func55 (by kernel_rfl) rfl Tryz.results55 _ Tryz.ntmps55 (by simp) ?_
  simp -implicitDefEqProofs only [go_sem]
  refine callX [] (spec_l1New code hl) (by simp -implicitDefEqProofs only [go_sem]) ?_
  simp -implicitDefEqProofs only [go_sem]
  refine callXNB [1128] [] ((spec_l33Any (newCur code) h).frozenX (by simp) cur_plain) (by decide) (by simp -implicitDefEqProofs only [go_sem]) (by simp -implicitDefEqProofs only [go_sem]) ?_
  simp -implicitDefEqProofs only [go_sem]
  rw [show any33 (newCur code) = eqA code from rfl]
  refine callX [] (spec_l33Copy (eqA code).1 h1.1.fit) (by simp -implicitDefEqProofs only [go_sem]) ?_
  simp -implicitDefEqProofs only [go_sem]
  refine callXNB [1128] [] (spec_l1Below (eqA code).2 5 h1.2) (by decide) (by simp -implicitDefEqProofs only [go_sem]) (by simp -implicitDefEqProofs only [go_sem]) ?_
  simp -implicitDefEqProofs only [go_sem]
  refine ⟨fun k0 => ?_, fun k0 => ⟨fun k1 => ?_, fun k1 => ⟨fun k2 => ?_, fun k2 => ?_⟩⟩⟩
  · rw [eqB_0 k0]
    refine callXNB [1128] [] (spec_l33Any (belowS (eqA code).2 5) (belowS_ok h1.2 5)) (by decide) (by simp -implicitDefEqProofs only [go_sem]) (by simp -implicitDefEqProofs only [go_sem]) ?_
    simp -implicitDefEqProofs only [go_sem]
    refine ⟨some [1032, 1048], by decide +kernel, ?_⟩
    simp -implicitDefEqProofs only [go_sem]
  · rw [eqB_1 k0 k1]
    refine ⟨some [1032, 1048], by decide +kernel, ?_⟩
    simp -implicitDefEqProofs only [go_sem]
  · rw [eqB_2 k0 k1 k2]
    refine ⟨room_s (by have := h1.1.depots; rw [show (eqA code) = any33 (newCur code) from rfl]; omega) (by decide), ?_⟩
    refine ⟨some [1032, 1048], by decide +kernel, ?_⟩
    simp -implicitDefEqProofs only [go_sem]
    simp [DDepot.row]
  · rw [eqB_3 k0 k1 k2]
    refine ⟨some [1032, 1048], by decide +kernel, ?_⟩
    simp -implicitDefEqProofs only [go_sem]
end Go.Abs
