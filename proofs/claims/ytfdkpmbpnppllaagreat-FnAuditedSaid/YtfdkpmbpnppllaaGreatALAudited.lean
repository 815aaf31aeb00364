/- The law FnAudited: its walk. -/
import Derived.Test.YtfdkpmbpnppllaaGreatADrawF
import Derived.Test.YtfdkpmbpnppllaaGreatAComesZ
namespace Go.Abs
open Go.RowKit Go.Proofs
set_option linter.unusedVariables false
set_option linter.unusedSimpArgs false
set_option maxRecDepth 100000
set_option maxHeartbeats 4000000

theorem laws_big (code : List Int) (h : code.length ≤ maxLen) : SC Tryz.prog 9 [.at (.im 1 (code.map byteRow))] [] (.at (.v (.bool (decide ((1048576 : Int) < code.length))))) [] := by
  refine SC.of_V mixed Tryz.func9 (by kernel_rfl) rfl Tryz.results9 _ Tryz.ntmps9 (by simp) ?_
  simp -implicitDefEqProofs only [go_sem]
theorem law_Audited (code : List Int) (code_max : code.length ≤ maxLen) : SC Tryz.prog 5 [.at (.im 1 (code.map byteRow))] [] (.at (.v (.bool true))) [] := by
  refine SC.of_V mixed Tryz.func5 (by kernel_rfl) rfl Tryz.results5 _ Tryz.ntmps5 (by simp) ?_
  simp -implicitDefEqProofs only [go_sem]
  refine callX [] (laws_big code code_max) (by simp -implicitDefEqProofs only [go_sem]) ?_
  simp -implicitDefEqProofs only [go_sem]
  intro hbig
  have hl : code.length ≤ 1099511627776 := by omega
  have hx := x36_ok hl
  have hf := hx.1.fit
  refine callX [] (spec_DrawFaultOf code hl) (by simp -implicitDefEqProofs only [go_sem]) ?_
  simp -implicitDefEqProofs only [go_sem]
  refine callX [] (impl_FaultOf (x36 code) hx.1) (by simp -implicitDefEqProofs only [go_sem]) ?_
  simp -implicitDefEqProofs only [go_sem]
  refine callX [] (impl_NothingLost (x36 code) hf.depots) (by simp -implicitDefEqProofs only [go_sem]) ?_
  simp -implicitDefEqProofs only [go_sem]
  refine ⟨fun h1 => ?_, fun h1 => ?_⟩
  · refine callX [] (impl_KeepsRule (x36 code) hf.past) (by simp -implicitDefEqProofs only [go_sem]) ?_
    simp -implicitDefEqProofs only [go_sem]
    refine ⟨fun h2 => ?_, fun h2 => ?_⟩
    · refine callX [] (impl_IsWritten (x36 code) hf.journal hf.pages) (by simp -implicitDefEqProofs only [go_sem]) ?_
      simp -implicitDefEqProofs only [go_sem]
      refine ⟨fun h3 => ?_, fun h3 => ?_⟩
      · refine callX [] (impl_ComesHome (x36 code) hx.1) (by simp -implicitDefEqProofs only [go_sem]) ?_
        simp -implicitDefEqProofs only [go_sem]
        refine ⟨fun h4 => ?_, fun h4 => ?_⟩
        · refine callX [] (impl_IsTrek (x36 code) hf) (by simp -implicitDefEqProofs only [go_sem]) ?_
          simp -implicitDefEqProofs only [go_sem]
          by_cases h5 : trekP (x36 code)
          · have e5 : decide (trekP (x36 code)) = true := decide_eq_true h5
            rw [e5]
            have eL : decide (lostP (x36 code)) = true := decide_eq_true h1
            have e : faultZ (x36 code) = ⟨#[]⟩ := by rw [faultZ, if_neg (not_not_intro h1), if_neg (not_not_intro h2), if_neg (not_not_intro h3), if_neg (not_not_intro h4), if_neg (not_not_intro h5)]
            have k1 : ((⟨#[]⟩ : ByteArray).toList == (⟨#[]⟩ : ByteArray).toList) = true := by decide +kernel
            have k2 : ((⟨#[]⟩ : ByteArray).toList == (⟨#[102, 111, 111, 100]⟩ : ByteArray).toList) = false := by decide +kernel
            rw [e, k1]
            refine ⟨fun _ => ?_, fun k => absurd k (by decide)⟩
            refine callX [] (impl_NothingLost (x36 code) hf.depots) (by simp -implicitDefEqProofs only [go_sem]) ?_
            simp -implicitDefEqProofs only [go_sem]
            rw [k2, eL]
            refine ⟨fun _ => ?_, fun k => absurd k (by decide)⟩
            refine callX [] (impl_IsTrek (x36 code) hf) (by simp -implicitDefEqProofs only [go_sem]) ?_
            simp -implicitDefEqProofs only [go_sem]
            intro ht
            refine callX [] (impl_ComesHome (x36 code) hx.1) (by simp -implicitDefEqProofs only [go_sem]) ?_
            simp -implicitDefEqProofs only [go_sem]
            exact home_short ht (by omega)
          · have e5 : decide (trekP (x36 code)) = false := decide_eq_false h5
            rw [e5]
            have eL : decide (lostP (x36 code)) = true := decide_eq_true h1
            have e : faultZ (x36 code) = ⟨#[116, 114, 101, 107]⟩ := by rw [faultZ, if_neg (not_not_intro h1), if_neg (not_not_intro h2), if_neg (not_not_intro h3), if_neg (not_not_intro h4), if_pos h5]
            have k1 : ((⟨#[116, 114, 101, 107]⟩ : ByteArray).toList == (⟨#[]⟩ : ByteArray).toList) = false := by decide +kernel
            have k2 : ((⟨#[116, 114, 101, 107]⟩ : ByteArray).toList == (⟨#[102, 111, 111, 100]⟩ : ByteArray).toList) = false := by decide +kernel
            rw [e, k1]
            refine ⟨fun _ => ?_, fun k => absurd k (by decide)⟩
            refine callX [] (impl_NothingLost (x36 code) hf.depots) (by simp -implicitDefEqProofs only [go_sem]) ?_
            simp -implicitDefEqProofs only [go_sem]
            rw [k2, eL]
            refine ⟨fun _ => ?_, fun k => absurd k (by decide)⟩
            refine callX [] (impl_IsTrek (x36 code) hf) (by simp -implicitDefEqProofs only [go_sem]) ?_
            simp -implicitDefEqProofs only [go_sem]
            intro ht
            refine callX [] (impl_ComesHome (x36 code) hx.1) (by simp -implicitDefEqProofs only [go_sem]) ?_
            simp -implicitDefEqProofs only [go_sem]
            exact home_short ht (by omega)
        · skip
          have eL : decide (lostP (x36 code)) = true := decide_eq_true h1
          have e : faultZ (x36 code) = ⟨#[104, 111, 109, 101]⟩ := by rw [faultZ, if_neg (not_not_intro h1), if_neg (not_not_intro h2), if_neg (not_not_intro h3), if_pos h4]
          have k1 : ((⟨#[104, 111, 109, 101]⟩ : ByteArray).toList == (⟨#[]⟩ : ByteArray).toList) = false := by decide +kernel
          have k2 : ((⟨#[104, 111, 109, 101]⟩ : ByteArray).toList == (⟨#[102, 111, 111, 100]⟩ : ByteArray).toList) = false := by decide +kernel
          rw [e, k1]
          refine ⟨fun _ => ?_, fun k => absurd k (by decide)⟩
          refine callX [] (impl_NothingLost (x36 code) hf.depots) (by simp -implicitDefEqProofs only [go_sem]) ?_
          simp -implicitDefEqProofs only [go_sem]
          rw [k2, eL]
          refine ⟨fun _ => ?_, fun k => absurd k (by decide)⟩
          refine callX [] (impl_IsTrek (x36 code) hf) (by simp -implicitDefEqProofs only [go_sem]) ?_
          simp -implicitDefEqProofs only [go_sem]
          intro ht
          refine callX [] (impl_ComesHome (x36 code) hx.1) (by simp -implicitDefEqProofs only [go_sem]) ?_
          simp -implicitDefEqProofs only [go_sem]
          exact home_short ht (by omega)
      · skip
        have eL : decide (lostP (x36 code)) = true := decide_eq_true h1
        have e : faultZ (x36 code) = ⟨#[106, 111, 117, 114, 110, 97, 108]⟩ := by rw [faultZ, if_neg (not_not_intro h1), if_neg (not_not_intro h2), if_pos h3]
        have k1 : ((⟨#[106, 111, 117, 114, 110, 97, 108]⟩ : ByteArray).toList == (⟨#[]⟩ : ByteArray).toList) = false := by decide +kernel
        have k2 : ((⟨#[106, 111, 117, 114, 110, 97, 108]⟩ : ByteArray).toList == (⟨#[102, 111, 111, 100]⟩ : ByteArray).toList) = false := by decide +kernel
        rw [e, k1]
        refine ⟨fun _ => ?_, fun k => absurd k (by decide)⟩
        refine callX [] (impl_NothingLost (x36 code) hf.depots) (by simp -implicitDefEqProofs only [go_sem]) ?_
        simp -implicitDefEqProofs only [go_sem]
        rw [k2, eL]
        refine ⟨fun _ => ?_, fun k => absurd k (by decide)⟩
        refine callX [] (impl_IsTrek (x36 code) hf) (by simp -implicitDefEqProofs only [go_sem]) ?_
        simp -implicitDefEqProofs only [go_sem]
        intro ht
        refine callX [] (impl_ComesHome (x36 code) hx.1) (by simp -implicitDefEqProofs only [go_sem]) ?_
        simp -implicitDefEqProofs only [go_sem]
        exact home_short ht (by omega)
    · skip
      have eL : decide (lostP (x36 code)) = true := decide_eq_true h1
      have e : faultZ (x36 code) = ⟨#[114, 117, 108, 101]⟩ := by rw [faultZ, if_neg (not_not_intro h1), if_pos h2]
      have k1 : ((⟨#[114, 117, 108, 101]⟩ : ByteArray).toList == (⟨#[]⟩ : ByteArray).toList) = false := by decide +kernel
      have k2 : ((⟨#[114, 117, 108, 101]⟩ : ByteArray).toList == (⟨#[102, 111, 111, 100]⟩ : ByteArray).toList) = false := by decide +kernel
      rw [e, k1]
      refine ⟨fun _ => ?_, fun k => absurd k (by decide)⟩
      refine callX [] (impl_NothingLost (x36 code) hf.depots) (by simp -implicitDefEqProofs only [go_sem]) ?_
      simp -implicitDefEqProofs only [go_sem]
      rw [k2, eL]
      refine ⟨fun _ => ?_, fun k => absurd k (by decide)⟩
      refine callX [] (impl_IsTrek (x36 code) hf) (by simp -implicitDefEqProofs only [go_sem]) ?_
      simp -implicitDefEqProofs only [go_sem]
      intro ht
      refine callX [] (impl_ComesHome (x36 code) hx.1) (by simp -implicitDefEqProofs only [go_sem]) ?_
      simp -implicitDefEqProofs only [go_sem]
      exact home_short ht (by omega)
  · skip
    have eL : decide (lostP (x36 code)) = false := decide_eq_false h1
    have e : faultZ (x36 code) = ⟨#[102, 111, 111, 100]⟩ := by rw [faultZ, if_pos h1]
    have k1 : ((⟨#[102, 111, 111, 100]⟩ : ByteArray).toList == (⟨#[]⟩ : ByteArray).toList) = false := by decide +kernel
    have k2 : ((⟨#[102, 111, 111, 100]⟩ : ByteArray).toList == (⟨#[102, 111, 111, 100]⟩ : ByteArray).toList) = true := by decide +kernel
    rw [e, k1]
    refine ⟨fun _ => ?_, fun k => absurd k (by decide)⟩
    refine callX [] (impl_NothingLost (x36 code) hf.depots) (by simp -implicitDefEqProofs only [go_sem]) ?_
    simp -implicitDefEqProofs only [go_sem]
    rw [eL]
    refine ⟨fun _ => ?_, fun k => absurd k (by decide)⟩
    refine callX [] (impl_IsTrek (x36 code) hf) (by simp -implicitDefEqProofs only [go_sem]) ?_
    simp -implicitDefEqProofs only [go_sem]
    intro ht
    refine callX [] (impl_ComesHome (x36 code) hx.1) (by simp -implicitDefEqProofs only [go_sem]) ?_
    simp -implicitDefEqProofs only [go_sem]
    exact home_short ht (by omega)
end Go.Abs
