/- The law FnTreks: its walk. -/
import Derived.Test.YtgnomlceahpbkaaGreatADrawN
import Derived.Test.YtgnomlceahpbkaaGreatAEqT
import Derived.Test.YtgnomlceahpbkaaGreatANewT
import Derived.Test.YtgnomlceahpbkaaGreatAStpX
namespace Go.Abs
open Go.RowKit Go.Proofs
set_option linter.unusedVariables false
set_option linter.unusedSimpArgs false
set_option maxRecDepth 100000
set_option maxHeartbeats 4000000

theorem laws_big (code : List Int) (h : code.length ≤ maxLen) : SC Tryz.prog 45 [.at (.im 1 (code.map byteRow))] [] (.at (.v (.bool (decide ((1048576 : Int) < code.length))))) [] := by
  refine SC.of_V mixed Tryz.func45 (by kernel_rfl) rfl Tryz.results45 _ Tryz.ntmps45 (by simp) ?_
  simp -implicitDefEqProofs only [go_sem]
theorem dec_beq {p q : Prop} [Decidable p] [Decidable q] (h : p ↔ q) : (decide p == decide q) = true := by
  rw [beq_iff_eq]; exact decide_eq_decide.2 h
theorem dec_bf {p : Prop} [Decidable p] (h : ¬ p) : (decide p == false) = true := by simp [h]
theorem eqB_fit {code : List Int} (h : code.length ≤ 1099511627776) : (eqB code).Fit := by
  have h1 := any33_ok (newCur_ok h)
  have h2 : (eqA code).1.Fit := h1.1.fit
  have h3 : (eqA code).1.depots.length ≤ 1000 := h1.1.depots
  unfold eqB
  split
  · exact (any33_ok (belowS_ok h1.2 5)).1.fit
  split
  · exact ⟨h2.cells, h2.depots, h2.crew, h2.past, h2.journal, h2.pages⟩
  split
  · exact ⟨h2.cells, by simp; omega, h2.crew, h2.past, h2.journal, h2.pages⟩
  · exact h2
theorem law_Treks (code : List Int) (code_max : code.length ≤ maxLen) : SC Tryz.prog 13 [.at (.im 1 (code.map byteRow))] [] (.at (.v (.bool true))) [] := by
  refine SC.of_V mixed Tryz.func13 (by kernel_rfl) rfl Tryz.results13 _ Tryz.ntmps13 (by simp) ?_
  simp -implicitDefEqProofs only [go_sem]
  refine callX [] (laws_big code code_max) (by simp -implicitDefEqProofs only [go_sem]) ?_
  simp -implicitDefEqProofs only [go_sem]
  intro hbig
  have hl : code.length ≤ 1099511627776 := by omega
  have h := nt_ok hl
  have h33 := any33_ok h.1
  have hA : (eqA code).1.Fit := h33.1.fit
  have hB := eqB_fit hl
  have hsym : ((decide ((eqA code).1 = eqB code)) == decide (eqB code = (eqA code).1)) = true := by rw [beq_iff_eq]; exact decide_eq_decide.2 eq_comm
  have hsum : trekP (any33 (newCur code)).1 → IntKind.i64.wrap (IntKind.i64.wrap ((any33 (newCur code)).1.eaten + (any33 (newCur code)).1.party.food) + foodZ (any33 (newCur code)).1.depots) = (any33 (newCur code)).1.eaten + (any33 (newCur code)).1.party.food + foodZ (any33 (newCur code)).1.depots := by
    intro hy
    have h1 := hy.2.2.2.2.2.2.1
    have h2 := hy.2.2.2.2.2.2.2.1
    have hfd := trek_food hy.1
    rw [wrap64 (x := (any33 (newCur code)).1.eaten + (any33 (newCur code)).1.party.food) (by omega) (by omega), wrap64 (by omega) (by omega)]
  refine callX [] (spec_DrawNewTrek code hl) (by simp -implicitDefEqProofs only [go_sem]) ?_
  simp -implicitDefEqProofs only [go_sem]
  by_cases ht : trekP (newT (ntA code).1 (ntB code) (ntR code).1.1 (ntM code).1)
  · have h3 := newT_trek.1 ht
    have e : newTrekZ (ntA code).1 (ntB code) (ntR code).1.1 (ntM code).1 = newT (ntA code).1 (ntB code) (ntR code).1.1 (ntM code).1 := if_pos ht
    have hfit : (newT (ntA code).1 (ntB code) (ntR code).1.1 (ntM code).1).Fit := newT_fit (by omega) (by omega)
    refine callX [1256, 1257] (impl_NewTrek (ntA code).1 (ntB code) (ntR code).1.1 (ntM code).1 (by omega) (by omega)) (by simp -implicitDefEqProofs only [go_sem]) ?_
    simp -implicitDefEqProofs only [go_sem]
    rw [e]
    simp -implicitDefEqProofs only [go_sem]
    refine callX [1256] (impl_IsOpen (ntA code).1 (ntB code) (by omega)) (by simp -implicitDefEqProofs only [go_sem]) ?_
    simp -implicitDefEqProofs only [go_sem]
    refine ⟨fun _ => ?_, fun k => absurd h3.1 k⟩
    refine callX [] (impl_IsRule (ntR code).1.1) (by simp -implicitDefEqProofs only [go_sem]) ?_
    simp -implicitDefEqProofs only [go_sem]
    refine ⟨fun _ => ?_, fun k => absurd h3.2.1 k⟩
    refine callX [1257] (impl_AreCrew (ntM code).1 (by omega)) (by simp -implicitDefEqProofs only [go_sem]) ?_
    simp -implicitDefEqProofs only [go_sem]
    refine ⟨fun k => ?_, fun k => ?_⟩
    · refine ⟨fun _ => ?_, fun k => absurd ht (of_decide_eq_false k)⟩
      refine callX [1416, 1417, 1418, 1419, 1420] (impl_IsTrek (newT (ntA code).1 (ntB code) (ntR code).1.1 (ntM code).1) hfit) (by simp -implicitDefEqProofs only [go_sem]) ?_
      simp -implicitDefEqProofs only [go_sem]
      refine ⟨fun _ => ?_, fun k => absurd ht (of_decide_eq_false k)⟩
      refine callX [1416, 1417, 1418, 1419, 1420] (impl_AtBase (newT (ntA code).1 (ntB code) (ntR code).1.1 (ntM code).1)) (by simp -implicitDefEqProofs only [go_sem]) ?_
      simp -implicitDefEqProofs only [go_sem]
      refine callX [1416, 1417, 1418, 1419, 1420] (impl_CanReturnNow (newT (ntA code).1 (ntB code) (ntR code).1.1 (ntM code).1) hfit) (by simp -implicitDefEqProofs only [go_sem]) ?_
      simp -implicitDefEqProofs only [go_sem]
      refine ⟨fun _ => ?_, fun k => absurd ht.1 (of_decide_eq_false k)⟩
      refine callX [] ((spec_DrawIsTrek code hl).frozen) (by simp -implicitDefEqProofs only [go_sem]) ?_
      simp -implicitDefEqProofs only [go_sem]
      refine callX [] ((spec_DrawEqualTreks code hl).frozen) (by simp -implicitDefEqProofs only [go_sem]) ?_
      simp -implicitDefEqProofs only [go_sem]
      refine ⟨some [], by decide +kernel, ?_⟩
      simp -implicitDefEqProofs only [go_sem]
      refine callXQ [] (impl_IsTrek (any33 (newCur code)).1 h33.1.fit) (by simp -implicitDefEqProofs only [go_sem]) ?_
      simp -implicitDefEqProofs only [go_sem]
      refine ⟨fun hy => ?_, fun hy => ?_⟩
      · refine callXQ [] (impl_CanReturnNow (any33 (newCur code)).1 h33.1.fit) (by simp -implicitDefEqProofs only [go_sem]) ?_
        simp -implicitDefEqProofs only [go_sem]
        refine ⟨fun _ => ?_, fun k => absurd hy.1 k⟩
        refine callXQ [] (impl_TotalFood (any33 (newCur code)).1.depots h33.1.fit.depots) (by simp -implicitDefEqProofs only [go_sem]) ?_
        simp -implicitDefEqProofs only [go_sem]
        rw [hsum hy]
        refine ⟨fun _ => ?_, fun k => absurd hy.2.2.2.2.2.2.2.2 k⟩
        refine callXQ [] (impl_EqualTreks (eqA code).1 (eqB code) hA) (by simp -implicitDefEqProofs only [go_sem]) ?_
        simp -implicitDefEqProofs only [go_sem]
        refine callXQ [] (impl_EqualTreks (eqB code) (eqA code).1 hB) (by simp -implicitDefEqProofs only [go_sem]) ?_
        simp -implicitDefEqProofs only [go_sem]
        refine ⟨fun _ => ?_, fun k => by rw [hsym] at k; cases k⟩
        refine callXQ [] (impl_EqualTreks (eqA code).1 (eqA code).1 hA) (by simp -implicitDefEqProofs only [go_sem]) ?_
        simp -implicitDefEqProofs only [go_sem]
      · refine callXQ [] (impl_EqualTreks (eqA code).1 (eqB code) hA) (by simp -implicitDefEqProofs only [go_sem]) ?_
        simp -implicitDefEqProofs only [go_sem]
        refine callXQ [] (impl_EqualTreks (eqB code) (eqA code).1 hB) (by simp -implicitDefEqProofs only [go_sem]) ?_
        simp -implicitDefEqProofs only [go_sem]
        refine ⟨fun _ => ?_, fun k => by rw [hsym] at k; cases k⟩
        refine callXQ [] (impl_EqualTreks (eqA code).1 (eqA code).1 hA) (by simp -implicitDefEqProofs only [go_sem]) ?_
        simp -implicitDefEqProofs only [go_sem]
    · exact absurd (k.symm.trans (dec_beq (p := trekP _) (q := CrewP _) ⟨fun _ => h3.2.2, fun _ => ht⟩)) (by decide)
  · have e : newTrekZ (ntA code).1 (ntB code) (ntR code).1.1 (ntM code).1 = noT := if_neg ht
    refine callX [1256, 1257] (impl_NewTrek (ntA code).1 (ntB code) (ntR code).1.1 (ntM code).1 (by omega) (by omega)) (by simp -implicitDefEqProofs only [go_sem]) ?_
    simp -implicitDefEqProofs only [go_sem]
    rw [e]
    refine callX [1256] (impl_IsOpen (ntA code).1 (ntB code) (by omega)) (by simp -implicitDefEqProofs only [go_sem]) ?_
    simp -implicitDefEqProofs only [go_sem]
    refine ⟨fun h1 => ?_, fun h1 => ?_⟩
    · refine callX [] (impl_IsRule (ntR code).1.1) (by simp -implicitDefEqProofs only [go_sem]) ?_
      simp -implicitDefEqProofs only [go_sem]
      refine ⟨fun h2 => ?_, fun h2 => ?_⟩
      · refine callX [1257] (impl_AreCrew (ntM code).1 (by omega)) (by simp -implicitDefEqProofs only [go_sem]) ?_
        simp -implicitDefEqProofs only [go_sem]
        refine ⟨fun k => ?_, fun k => ?_⟩
        · refine ⟨fun k2 => absurd (of_decide_eq_true k2) ht, fun _ => ?_⟩
          refine callX [] ((spec_DrawIsTrek code hl).frozen) (by simp -implicitDefEqProofs only [go_sem]) ?_
          simp -implicitDefEqProofs only [go_sem]
          refine callX [] ((spec_DrawEqualTreks code hl).frozen) (by simp -implicitDefEqProofs only [go_sem]) ?_
          simp -implicitDefEqProofs only [go_sem]
          refine ⟨some [], by decide +kernel, ?_⟩
          simp -implicitDefEqProofs only [go_sem]
          refine callXQ [] (impl_IsTrek (any33 (newCur code)).1 h33.1.fit) (by simp -implicitDefEqProofs only [go_sem]) ?_
          simp -implicitDefEqProofs only [go_sem]
          refine ⟨fun hy => ?_, fun hy => ?_⟩
          · refine callXQ [] (impl_CanReturnNow (any33 (newCur code)).1 h33.1.fit) (by simp -implicitDefEqProofs only [go_sem]) ?_
            simp -implicitDefEqProofs only [go_sem]
            refine ⟨fun _ => ?_, fun k => absurd hy.1 k⟩
            refine callXQ [] (impl_TotalFood (any33 (newCur code)).1.depots h33.1.fit.depots) (by simp -implicitDefEqProofs only [go_sem]) ?_
            simp -implicitDefEqProofs only [go_sem]
            rw [hsum hy]
            refine ⟨fun _ => ?_, fun k => absurd hy.2.2.2.2.2.2.2.2 k⟩
            refine callXQ [] (impl_EqualTreks (eqA code).1 (eqB code) hA) (by simp -implicitDefEqProofs only [go_sem]) ?_
            simp -implicitDefEqProofs only [go_sem]
            refine callXQ [] (impl_EqualTreks (eqB code) (eqA code).1 hB) (by simp -implicitDefEqProofs only [go_sem]) ?_
            simp -implicitDefEqProofs only [go_sem]
            refine ⟨fun _ => ?_, fun k => by rw [hsym] at k; cases k⟩
            refine callXQ [] (impl_EqualTreks (eqA code).1 (eqA code).1 hA) (by simp -implicitDefEqProofs only [go_sem]) ?_
            simp -implicitDefEqProofs only [go_sem]
          · refine callXQ [] (impl_EqualTreks (eqA code).1 (eqB code) hA) (by simp -implicitDefEqProofs only [go_sem]) ?_
            simp -implicitDefEqProofs only [go_sem]
            refine callXQ [] (impl_EqualTreks (eqB code) (eqA code).1 hB) (by simp -implicitDefEqProofs only [go_sem]) ?_
            simp -implicitDefEqProofs only [go_sem]
            refine ⟨fun _ => ?_, fun k => by rw [hsym] at k; cases k⟩
            refine callXQ [] (impl_EqualTreks (eqA code).1 (eqA code).1 hA) (by simp -implicitDefEqProofs only [go_sem]) ?_
            simp -implicitDefEqProofs only [go_sem]
        · exact absurd (k.symm.trans (dec_beq (p := trekP _) (q := CrewP _) ⟨fun h => absurd h ht, fun h => absurd (newT_trek.2 ⟨h1, h2, h⟩) ht⟩)) (by decide)
      · refine ⟨fun k => ?_, fun k => ?_⟩
        · refine ⟨fun k2 => absurd (of_decide_eq_true k2) ht, fun _ => ?_⟩
          refine callX [] ((spec_DrawIsTrek code hl).frozen) (by simp -implicitDefEqProofs only [go_sem]) ?_
          simp -implicitDefEqProofs only [go_sem]
          refine callX [] ((spec_DrawEqualTreks code hl).frozen) (by simp -implicitDefEqProofs only [go_sem]) ?_
          simp -implicitDefEqProofs only [go_sem]
          refine ⟨some [], by decide +kernel, ?_⟩
          simp -implicitDefEqProofs only [go_sem]
          refine callXQ [] (impl_IsTrek (any33 (newCur code)).1 h33.1.fit) (by simp -implicitDefEqProofs only [go_sem]) ?_
          simp -implicitDefEqProofs only [go_sem]
          refine ⟨fun hy => ?_, fun hy => ?_⟩
          · refine callXQ [] (impl_CanReturnNow (any33 (newCur code)).1 h33.1.fit) (by simp -implicitDefEqProofs only [go_sem]) ?_
            simp -implicitDefEqProofs only [go_sem]
            refine ⟨fun _ => ?_, fun k => absurd hy.1 k⟩
            refine callXQ [] (impl_TotalFood (any33 (newCur code)).1.depots h33.1.fit.depots) (by simp -implicitDefEqProofs only [go_sem]) ?_
            simp -implicitDefEqProofs only [go_sem]
            rw [hsum hy]
            refine ⟨fun _ => ?_, fun k => absurd hy.2.2.2.2.2.2.2.2 k⟩
            refine callXQ [] (impl_EqualTreks (eqA code).1 (eqB code) hA) (by simp -implicitDefEqProofs only [go_sem]) ?_
            simp -implicitDefEqProofs only [go_sem]
            refine callXQ [] (impl_EqualTreks (eqB code) (eqA code).1 hB) (by simp -implicitDefEqProofs only [go_sem]) ?_
            simp -implicitDefEqProofs only [go_sem]
            refine ⟨fun _ => ?_, fun k => by rw [hsym] at k; cases k⟩
            refine callXQ [] (impl_EqualTreks (eqA code).1 (eqA code).1 hA) (by simp -implicitDefEqProofs only [go_sem]) ?_
            simp -implicitDefEqProofs only [go_sem]
          · refine callXQ [] (impl_EqualTreks (eqA code).1 (eqB code) hA) (by simp -implicitDefEqProofs only [go_sem]) ?_
            simp -implicitDefEqProofs only [go_sem]
            refine callXQ [] (impl_EqualTreks (eqB code) (eqA code).1 hB) (by simp -implicitDefEqProofs only [go_sem]) ?_
            simp -implicitDefEqProofs only [go_sem]
            refine ⟨fun _ => ?_, fun k => by rw [hsym] at k; cases k⟩
            refine callXQ [] (impl_EqualTreks (eqA code).1 (eqA code).1 hA) (by simp -implicitDefEqProofs only [go_sem]) ?_
            simp -implicitDefEqProofs only [go_sem]
        · first | exact absurd (k.symm.trans (dec_bf ht)) (by decide) | exact absurd (of_decide_eq_true k) ht | exact absurd (of_decide_eq_true k.symm) ht | exact absurd k ht
    · refine ⟨fun k => ?_, fun k => ?_⟩
      · refine ⟨fun k2 => absurd (of_decide_eq_true k2) ht, fun _ => ?_⟩
        refine callX [] ((spec_DrawIsTrek code hl).frozen) (by simp -implicitDefEqProofs only [go_sem]) ?_
        simp -implicitDefEqProofs only [go_sem]
        refine callX [] ((spec_DrawEqualTreks code hl).frozen) (by simp -implicitDefEqProofs only [go_sem]) ?_
        simp -implicitDefEqProofs only [go_sem]
        refine ⟨some [], by decide +kernel, ?_⟩
        simp -implicitDefEqProofs only [go_sem]
        refine callXQ [] (impl_IsTrek (any33 (newCur code)).1 h33.1.fit) (by simp -implicitDefEqProofs only [go_sem]) ?_
        simp -implicitDefEqProofs only [go_sem]
        refine ⟨fun hy => ?_, fun hy => ?_⟩
        · refine callXQ [] (impl_CanReturnNow (any33 (newCur code)).1 h33.1.fit) (by simp -implicitDefEqProofs only [go_sem]) ?_
          simp -implicitDefEqProofs only [go_sem]
          refine ⟨fun _ => ?_, fun k => absurd hy.1 k⟩
          refine callXQ [] (impl_TotalFood (any33 (newCur code)).1.depots h33.1.fit.depots) (by simp -implicitDefEqProofs only [go_sem]) ?_
          simp -implicitDefEqProofs only [go_sem]
          rw [hsum hy]
          refine ⟨fun _ => ?_, fun k => absurd hy.2.2.2.2.2.2.2.2 k⟩
          refine callXQ [] (impl_EqualTreks (eqA code).1 (eqB code) hA) (by simp -implicitDefEqProofs only [go_sem]) ?_
          simp -implicitDefEqProofs only [go_sem]
          refine callXQ [] (impl_EqualTreks (eqB code) (eqA code).1 hB) (by simp -implicitDefEqProofs only [go_sem]) ?_
          simp -implicitDefEqProofs only [go_sem]
          refine ⟨fun _ => ?_, fun k => by rw [hsym] at k; cases k⟩
          refine callXQ [] (impl_EqualTreks (eqA code).1 (eqA code).1 hA) (by simp -implicitDefEqProofs only [go_sem]) ?_
          simp -implicitDefEqProofs only [go_sem]
        · refine callXQ [] (impl_EqualTreks (eqA code).1 (eqB code) hA) (by simp -implicitDefEqProofs only [go_sem]) ?_
          simp -implicitDefEqProofs only [go_sem]
          refine callXQ [] (impl_EqualTreks (eqB code) (eqA code).1 hB) (by simp -implicitDefEqProofs only [go_sem]) ?_
          simp -implicitDefEqProofs only [go_sem]
          refine ⟨fun _ => ?_, fun k => by rw [hsym] at k; cases k⟩
          refine callXQ [] (impl_EqualTreks (eqA code).1 (eqA code).1 hA) (by simp -implicitDefEqProofs only [go_sem]) ?_
          simp -implicitDefEqProofs only [go_sem]
      · first | exact absurd (k.symm.trans (dec_bf ht)) (by decide) | exact absurd (of_decide_eq_true k) ht | exact absurd (of_decide_eq_true k.symm) ht | exact absurd k ht
end Go.Abs
