/- The questions of the console. -/
import Derived.Test.YthobmgkagcampaaGreatDoorAConA
import Derived.Test.YthobmgkagcampaaGreatDoorAStpY
import Derived.Test.YthobmgkagcampaaGreatDoorAComesZ
namespace Go.Abs
open Go.RowKit Go.Proofs
set_option linter.all false
set_option maxRecDepth 100000
set_option maxHeartbeats 4000000
structure Told (t : DTrek) : Prop where
 sane : t.Sane
 nums : t.nums
 deps : ∀ d ∈ t.depots, d.wf
noncomputable def askZ (t : DTrek) (w : ByteArray) : Option ByteArray :=
 if w = (⟨#[109, 97, 121]⟩ : ByteArray) then some (cellsV t.land (choicesZ t.land t.base t.rule t.depots t.party))
 else if w = (⟨#[116, 97, 114, 103, 101, 116, 115]⟩ : ByteArray) then some (cellsV t.land (targetsZ t.land t.base t.rule t.depots t.party))
 else if w = (⟨#[108, 97, 116, 101, 115, 116]⟩ : ByteArray) then some (fmtV ((latestZ t.land t.base t.rule t.depots t.party : Nat) : Int))
 else if w = (⟨#[119, 111, 114, 115, 116]⟩ : ByteArray) then some (fmtV (leftZ t.land t.base t.rule t.depots t.party))
 else if w = (⟨#[108, 97, 121]⟩ : ByteArray) then some (fmtV (mostZ t.land t.base t.rule t.depots t.party))
 else if w = (⟨#[119, 97, 121]⟩ : ByteArray) then some (wayT t.land (wayZ t.land t.party.at_ t.base))
 else if w = (⟨#[108, 97, 110, 100]⟩ : ByteArray) then some (landT t.land)
 else if w = (⟨#[112, 97, 114, 116, 121]⟩ : ByteArray) then some (partyT t.land t.party)
 else if w = (⟨#[100, 101, 112, 111, 116, 115]⟩ : ByteArray) then some (depsV t.land t.depots)
 else if w = (⟨#[106, 111, 117, 114, 110, 97, 108]⟩ : ByteArray) then some (jourV t.land t.journal)
 else if w = (⟨#[116, 114, 101, 107]⟩ : ByteArray) then some (trekV t)
 else if w = (⟨#[97, 117, 100, 105, 116]⟩ : ByteArray) then some ((if faultZ t = (⟨#[]⟩ : ByteArray) then (⟨#[111, 107]⟩ : ByteArray) else faultZ t))
 else none
def showV (s : ByteArray) : ByteArray := if s = (⟨#[]⟩ : ByteArray) then (⟨#[45]⟩ : ByteArray) else s
noncomputable def tellZ (t : DTrek) (w : ByteArray) : ByteArray := match askZ t w with | some s => showV s | none => (⟨#[119, 104, 97, 116]⟩ : ByteArray)
theorem tell_some {t : DTrek} {w s : ByteArray} (h : askZ t w = some s) : tellZ t w = showV s := by rw [tellZ, h]
theorem tell_none {t : DTrek} {w : ByteArray} (h : askZ t w = none) : tellZ t w = (⟨#[119, 104, 97, 116]⟩ : ByteArray) := by rw [tellZ, h]
theorem ask_0 {t : DTrek} {w : ByteArray}  (h : w = (⟨#[109, 97, 121]⟩ : ByteArray)) : askZ t w = some (cellsV t.land (choicesZ t.land t.base t.rule t.depots t.party)) := by rw [askZ, if_pos h]
theorem ask_1 {t : DTrek} {w : ByteArray} (h0 : w ≠ (⟨#[109, 97, 121]⟩ : ByteArray)) (h : w = (⟨#[116, 97, 114, 103, 101, 116, 115]⟩ : ByteArray)) : askZ t w = some (cellsV t.land (targetsZ t.land t.base t.rule t.depots t.party)) := by rw [askZ, if_neg h0, if_pos h]
theorem ask_2 {t : DTrek} {w : ByteArray} (h0 : w ≠ (⟨#[109, 97, 121]⟩ : ByteArray)) (h1 : w ≠ (⟨#[116, 97, 114, 103, 101, 116, 115]⟩ : ByteArray)) (h : w = (⟨#[108, 97, 116, 101, 115, 116]⟩ : ByteArray)) : askZ t w = some (fmtV ((latestZ t.land t.base t.rule t.depots t.party : Nat) : Int)) := by rw [askZ, if_neg h0, if_neg h1, if_pos h]
theorem ask_3 {t : DTrek} {w : ByteArray} (h0 : w ≠ (⟨#[109, 97, 121]⟩ : ByteArray)) (h1 : w ≠ (⟨#[116, 97, 114, 103, 101, 116, 115]⟩ : ByteArray)) (h2 : w ≠ (⟨#[108, 97, 116, 101, 115, 116]⟩ : ByteArray)) (h : w = (⟨#[119, 111, 114, 115, 116]⟩ : ByteArray)) : askZ t w = some (fmtV (leftZ t.land t.base t.rule t.depots t.party)) := by rw [askZ, if_neg h0, if_neg h1, if_neg h2, if_pos h]
theorem ask_4 {t : DTrek} {w : ByteArray} (h0 : w ≠ (⟨#[109, 97, 121]⟩ : ByteArray)) (h1 : w ≠ (⟨#[116, 97, 114, 103, 101, 116, 115]⟩ : ByteArray)) (h2 : w ≠ (⟨#[108, 97, 116, 101, 115, 116]⟩ : ByteArray)) (h3 : w ≠ (⟨#[119, 111, 114, 115, 116]⟩ : ByteArray)) (h : w = (⟨#[108, 97, 121]⟩ : ByteArray)) : askZ t w = some (fmtV (mostZ t.land t.base t.rule t.depots t.party)) := by rw [askZ, if_neg h0, if_neg h1, if_neg h2, if_neg h3, if_pos h]
theorem ask_5 {t : DTrek} {w : ByteArray} (h0 : w ≠ (⟨#[109, 97, 121]⟩ : ByteArray)) (h1 : w ≠ (⟨#[116, 97, 114, 103, 101, 116, 115]⟩ : ByteArray)) (h2 : w ≠ (⟨#[108, 97, 116, 101, 115, 116]⟩ : ByteArray)) (h3 : w ≠ (⟨#[119, 111, 114, 115, 116]⟩ : ByteArray)) (h4 : w ≠ (⟨#[108, 97, 121]⟩ : ByteArray)) (h : w = (⟨#[119, 97, 121]⟩ : ByteArray)) : askZ t w = some (wayT t.land (wayZ t.land t.party.at_ t.base)) := by rw [askZ, if_neg h0, if_neg h1, if_neg h2, if_neg h3, if_neg h4, if_pos h]
theorem ask_6 {t : DTrek} {w : ByteArray} (h0 : w ≠ (⟨#[109, 97, 121]⟩ : ByteArray)) (h1 : w ≠ (⟨#[116, 97, 114, 103, 101, 116, 115]⟩ : ByteArray)) (h2 : w ≠ (⟨#[108, 97, 116, 101, 115, 116]⟩ : ByteArray)) (h3 : w ≠ (⟨#[119, 111, 114, 115, 116]⟩ : ByteArray)) (h4 : w ≠ (⟨#[108, 97, 121]⟩ : ByteArray)) (h5 : w ≠ (⟨#[119, 97, 121]⟩ : ByteArray)) (h : w = (⟨#[108, 97, 110, 100]⟩ : ByteArray)) : askZ t w = some (landT t.land) := by rw [askZ, if_neg h0, if_neg h1, if_neg h2, if_neg h3, if_neg h4, if_neg h5, if_pos h]
theorem ask_7 {t : DTrek} {w : ByteArray} (h0 : w ≠ (⟨#[109, 97, 121]⟩ : ByteArray)) (h1 : w ≠ (⟨#[116, 97, 114, 103, 101, 116, 115]⟩ : ByteArray)) (h2 : w ≠ (⟨#[108, 97, 116, 101, 115, 116]⟩ : ByteArray)) (h3 : w ≠ (⟨#[119, 111, 114, 115, 116]⟩ : ByteArray)) (h4 : w ≠ (⟨#[108, 97, 121]⟩ : ByteArray)) (h5 : w ≠ (⟨#[119, 97, 121]⟩ : ByteArray)) (h6 : w ≠ (⟨#[108, 97, 110, 100]⟩ : ByteArray)) (h : w = (⟨#[112, 97, 114, 116, 121]⟩ : ByteArray)) : askZ t w = some (partyT t.land t.party) := by rw [askZ, if_neg h0, if_neg h1, if_neg h2, if_neg h3, if_neg h4, if_neg h5, if_neg h6, if_pos h]
theorem ask_8 {t : DTrek} {w : ByteArray} (h0 : w ≠ (⟨#[109, 97, 121]⟩ : ByteArray)) (h1 : w ≠ (⟨#[116, 97, 114, 103, 101, 116, 115]⟩ : ByteArray)) (h2 : w ≠ (⟨#[108, 97, 116, 101, 115, 116]⟩ : ByteArray)) (h3 : w ≠ (⟨#[119, 111, 114, 115, 116]⟩ : ByteArray)) (h4 : w ≠ (⟨#[108, 97, 121]⟩ : ByteArray)) (h5 : w ≠ (⟨#[119, 97, 121]⟩ : ByteArray)) (h6 : w ≠ (⟨#[108, 97, 110, 100]⟩ : ByteArray)) (h7 : w ≠ (⟨#[112, 97, 114, 116, 121]⟩ : ByteArray)) (h : w = (⟨#[100, 101, 112, 111, 116, 115]⟩ : ByteArray)) : askZ t w = some (depsV t.land t.depots) := by rw [askZ, if_neg h0, if_neg h1, if_neg h2, if_neg h3, if_neg h4, if_neg h5, if_neg h6, if_neg h7, if_pos h]
theorem ask_9 {t : DTrek} {w : ByteArray} (h0 : w ≠ (⟨#[109, 97, 121]⟩ : ByteArray)) (h1 : w ≠ (⟨#[116, 97, 114, 103, 101, 116, 115]⟩ : ByteArray)) (h2 : w ≠ (⟨#[108, 97, 116, 101, 115, 116]⟩ : ByteArray)) (h3 : w ≠ (⟨#[119, 111, 114, 115, 116]⟩ : ByteArray)) (h4 : w ≠ (⟨#[108, 97, 121]⟩ : ByteArray)) (h5 : w ≠ (⟨#[119, 97, 121]⟩ : ByteArray)) (h6 : w ≠ (⟨#[108, 97, 110, 100]⟩ : ByteArray)) (h7 : w ≠ (⟨#[112, 97, 114, 116, 121]⟩ : ByteArray)) (h8 : w ≠ (⟨#[100, 101, 112, 111, 116, 115]⟩ : ByteArray)) (h : w = (⟨#[106, 111, 117, 114, 110, 97, 108]⟩ : ByteArray)) : askZ t w = some (jourV t.land t.journal) := by rw [askZ, if_neg h0, if_neg h1, if_neg h2, if_neg h3, if_neg h4, if_neg h5, if_neg h6, if_neg h7, if_neg h8, if_pos h]
theorem ask_10 {t : DTrek} {w : ByteArray} (h0 : w ≠ (⟨#[109, 97, 121]⟩ : ByteArray)) (h1 : w ≠ (⟨#[116, 97, 114, 103, 101, 116, 115]⟩ : ByteArray)) (h2 : w ≠ (⟨#[108, 97, 116, 101, 115, 116]⟩ : ByteArray)) (h3 : w ≠ (⟨#[119, 111, 114, 115, 116]⟩ : ByteArray)) (h4 : w ≠ (⟨#[108, 97, 121]⟩ : ByteArray)) (h5 : w ≠ (⟨#[119, 97, 121]⟩ : ByteArray)) (h6 : w ≠ (⟨#[108, 97, 110, 100]⟩ : ByteArray)) (h7 : w ≠ (⟨#[112, 97, 114, 116, 121]⟩ : ByteArray)) (h8 : w ≠ (⟨#[100, 101, 112, 111, 116, 115]⟩ : ByteArray)) (h9 : w ≠ (⟨#[106, 111, 117, 114, 110, 97, 108]⟩ : ByteArray)) (h : w = (⟨#[116, 114, 101, 107]⟩ : ByteArray)) : askZ t w = some (trekV t) := by rw [askZ, if_neg h0, if_neg h1, if_neg h2, if_neg h3, if_neg h4, if_neg h5, if_neg h6, if_neg h7, if_neg h8, if_neg h9, if_pos h]
theorem ask_11 {t : DTrek} {w : ByteArray} (h0 : w ≠ (⟨#[109, 97, 121]⟩ : ByteArray)) (h1 : w ≠ (⟨#[116, 97, 114, 103, 101, 116, 115]⟩ : ByteArray)) (h2 : w ≠ (⟨#[108, 97, 116, 101, 115, 116]⟩ : ByteArray)) (h3 : w ≠ (⟨#[119, 111, 114, 115, 116]⟩ : ByteArray)) (h4 : w ≠ (⟨#[108, 97, 121]⟩ : ByteArray)) (h5 : w ≠ (⟨#[119, 97, 121]⟩ : ByteArray)) (h6 : w ≠ (⟨#[108, 97, 110, 100]⟩ : ByteArray)) (h7 : w ≠ (⟨#[112, 97, 114, 116, 121]⟩ : ByteArray)) (h8 : w ≠ (⟨#[100, 101, 112, 111, 116, 115]⟩ : ByteArray)) (h9 : w ≠ (⟨#[106, 111, 117, 114, 110, 97, 108]⟩ : ByteArray)) (h10 : w ≠ (⟨#[116, 114, 101, 107]⟩ : ByteArray)) (h : w = (⟨#[97, 117, 100, 105, 116]⟩ : ByteArray)) : askZ t w = some ((if faultZ t = (⟨#[]⟩ : ByteArray) then (⟨#[111, 107]⟩ : ByteArray) else faultZ t)) := by rw [askZ, if_neg h0, if_neg h1, if_neg h2, if_neg h3, if_neg h4, if_neg h5, if_neg h6, if_neg h7, if_neg h8, if_neg h9, if_neg h10, if_pos h]
theorem ask_no {t : DTrek} {w : ByteArray} (h0 : w ≠ (⟨#[109, 97, 121]⟩ : ByteArray)) (h1 : w ≠ (⟨#[116, 97, 114, 103, 101, 116, 115]⟩ : ByteArray)) (h2 : w ≠ (⟨#[108, 97, 116, 101, 115, 116]⟩ : ByteArray)) (h3 : w ≠ (⟨#[119, 111, 114, 115, 116]⟩ : ByteArray)) (h4 : w ≠ (⟨#[108, 97, 121]⟩ : ByteArray)) (h5 : w ≠ (⟨#[119, 97, 121]⟩ : ByteArray)) (h6 : w ≠ (⟨#[108, 97, 110, 100]⟩ : ByteArray)) (h7 : w ≠ (⟨#[112, 97, 114, 116, 121]⟩ : ByteArray)) (h8 : w ≠ (⟨#[100, 101, 112, 111, 116, 115]⟩ : ByteArray)) (h9 : w ≠ (⟨#[106, 111, 117, 114, 110, 97, 108]⟩ : ByteArray)) (h10 : w ≠ (⟨#[116, 114, 101, 107]⟩ : ByteArray)) (h11 : w ≠ (⟨#[97, 117, 100, 105, 116]⟩ : ByteArray)) : askZ t w = none := by rw [askZ, if_neg h0, if_neg h1, if_neg h2, if_neg h3, if_neg h4, if_neg h5, if_neg h6, if_neg h7, if_neg h8, if_neg h9, if_neg h10, if_neg h11]
theorem impl_answer (t : DTrek) (w : ByteArray) (h : Told t) : SC Tryz.prog 30 [.ag t.ats, .at (.v (.string w))] [] (.tp [.at (.v (.string ((askZ t w).getD (⟨#[]⟩ : ByteArray)))), .at (.v (.bool ((askZ t w).isSome)))]) [] := by
 have hf := h.sane.fit
 have w1 : I64 ((latestZ t.land t.base t.rule t.depots t.party : Nat) : Int) := by have := latestZ_bnd t.land t.base t.rule t.depots t.party; unfold I64; omega
 have w2 : I64 (leftZ t.land t.base t.rule t.depots t.party) := by have := leftZ_bnd t.land t.base t.rule t.depots t.party; unfold I64; omega
 have w3 : I64 (mostZ t.land t.base t.rule t.depots t.party) := by have := mostZ_bnd t.land t.base t.rule t.depots t.party; unfold I64; omega
 have l1 := choicesZ_len (x := t.land) (base := t.base) (r := t.rule) (l := t.depots) (p := t.party)
 have l2 := targetsZ_len (x := t.land) (base := t.base) (r := t.rule) (l := t.depots) (p := t.party) hf.cells
 have l3 := wayZ_len t.land t.party.at_ t.base
 refine SC.of_W mixed Tryz.func30 (by kernel_rfl) rfl Tryz.results30 _ Tryz.ntmps30 (by simp) ?_
 simp -implicitDefEqProofs only [go_sem]
 refine ⟨fun e0 => ?_, fun e0 => ?_⟩
 ·rw [ask_0  (tl_t e0)]
  refine ⟨some [], by decide +kernel, ?_⟩
  simp -implicitDefEqProofs only [go_sem]
  refine callXQ [] ((impl_ChoicesOf t.land t.base t.rule t.depots t.party hf.cells hf.depots hf.crew hf.past).frozen) (by simp -implicitDefEqProofs only [go_sem]) ?_
  simp -implicitDefEqProofs only [go_sem]
  refine callXQ [] (impl_FormatCells t.land (choicesZ t.land t.base t.rule t.depots t.party) hf.cells (by omega)) (by simp -implicitDefEqProofs only [go_sem]) ?_
  simp -implicitDefEqProofs only [go_sem]
  try exact ⟨rfl, rfl⟩
 refine ⟨fun e1 => ?_, fun e1 => ?_⟩
 ·rw [ask_1 (tl_f e0) (tl_t e1)]
  refine ⟨some [], by decide +kernel, ?_⟩
  simp -implicitDefEqProofs only [go_sem]
  refine callXQ [] ((impl_SafeTargets t.land t.base t.rule t.depots t.party hf.cells hf.depots hf.crew hf.past).frozen) (by simp -implicitDefEqProofs only [go_sem]) ?_
  simp -implicitDefEqProofs only [go_sem]
  refine callXQ [] (impl_FormatCells t.land (targetsZ t.land t.base t.rule t.depots t.party) hf.cells (by omega)) (by simp -implicitDefEqProofs only [go_sem]) ?_
  simp -implicitDefEqProofs only [go_sem]
  try exact ⟨rfl, rfl⟩
 refine ⟨fun e2 => ?_, fun e2 => ?_⟩
 ·rw [ask_2 (tl_f e0) (tl_f e1) (tl_t e2)]
  refine callX [] (impl_LatestTurn t.land t.base t.rule t.depots t.party hf.cells hf.depots hf.crew hf.past) (by simp -implicitDefEqProofs only [go_sem]) ?_
  simp -implicitDefEqProofs only [go_sem]
  refine callX [] (impl_FormatInt ((latestZ t.land t.base t.rule t.depots t.party : Nat) : Int) w1) (by simp -implicitDefEqProofs only [go_sem]) ?_
  simp -implicitDefEqProofs only [go_sem]
  try exact ⟨rfl, rfl⟩
 refine ⟨fun e3 => ?_, fun e3 => ?_⟩
 ·rw [ask_3 (tl_f e0) (tl_f e1) (tl_f e2) (tl_t e3)]
  refine callX [] (impl_LeftAtHome t.land t.base t.rule t.depots t.party hf.cells hf.depots hf.crew) (by simp -implicitDefEqProofs only [go_sem]) ?_
  simp -implicitDefEqProofs only [go_sem]
  refine callX [] (impl_FormatInt (leftZ t.land t.base t.rule t.depots t.party) w2) (by simp -implicitDefEqProofs only [go_sem]) ?_
  simp -implicitDefEqProofs only [go_sem]
  try exact ⟨rfl, rfl⟩
 refine ⟨fun e4 => ?_, fun e4 => ?_⟩
 ·rw [ask_4 (tl_f e0) (tl_f e1) (tl_f e2) (tl_f e3) (tl_t e4)]
  refine callX [] (impl_MostToLay t.land t.base t.rule t.depots t.party hf.cells hf.depots hf.crew hf.past) (by simp -implicitDefEqProofs only [go_sem]) ?_
  simp -implicitDefEqProofs only [go_sem]
  refine callX [] (impl_FormatInt (mostZ t.land t.base t.rule t.depots t.party) w3) (by simp -implicitDefEqProofs only [go_sem]) ?_
  simp -implicitDefEqProofs only [go_sem]
  try exact ⟨rfl, rfl⟩
 refine ⟨fun e5 => ?_, fun e5 => ?_⟩
 ·rw [ask_5 (tl_f e0) (tl_f e1) (tl_f e2) (tl_f e3) (tl_f e4) (tl_t e5)]
  refine ⟨some [], by decide +kernel, ?_⟩
  simp -implicitDefEqProofs only [go_sem]
  refine callXQ [] ((impl_WayTo t.land t.party.at_ t.base hf.cells).frozen) (by simp -implicitDefEqProofs only [go_sem]) ?_
  simp -implicitDefEqProofs only [go_sem]
  refine callXQ [] (impl_WayText t.land (wayZ t.land t.party.at_ t.base) hf.cells (by omega)) (by simp -implicitDefEqProofs only [go_sem]) ?_
  simp -implicitDefEqProofs only [go_sem]
  try exact ⟨rfl, rfl⟩
 refine ⟨fun e6 => ?_, fun e6 => ?_⟩
 ·rw [ask_6 (tl_f e0) (tl_f e1) (tl_f e2) (tl_f e3) (tl_f e4) (tl_f e5) (tl_t e6)]
  refine callX [] (impl_LandText t.land hf.cells) (by simp -implicitDefEqProofs only [go_sem]) ?_
  simp -implicitDefEqProofs only [go_sem]
  try exact ⟨rfl, rfl⟩
 refine ⟨fun e7 => ?_, fun e7 => ?_⟩
 ·rw [ask_7 (tl_f e0) (tl_f e1) (tl_f e2) (tl_f e3) (tl_f e4) (tl_f e5) (tl_f e6) (tl_t e7)]
  refine callX [] (impl_PartyText t.land t.party hf.cells hf.crew hf.past) (by simp -implicitDefEqProofs only [go_sem]) ?_
  simp -implicitDefEqProofs only [go_sem]
  try exact ⟨rfl, rfl⟩
 refine ⟨fun e8 => ?_, fun e8 => ?_⟩
 ·rw [ask_8 (tl_f e0) (tl_f e1) (tl_f e2) (tl_f e3) (tl_f e4) (tl_f e5) (tl_f e6) (tl_f e7) (tl_t e8)]
  refine callX [] (impl_FormatDepots t.land t.depots hf.cells hf.depots h.deps) (by simp -implicitDefEqProofs only [go_sem]) ?_
  simp -implicitDefEqProofs only [go_sem]
  try exact ⟨rfl, rfl⟩
 refine ⟨fun e9 => ?_, fun e9 => ?_⟩
 ·rw [ask_9 (tl_f e0) (tl_f e1) (tl_f e2) (tl_f e3) (tl_f e4) (tl_f e5) (tl_f e6) (tl_f e7) (tl_f e8) (tl_t e9)]
  refine callX [] (impl_FormatJournal t.land t.journal hf.cells hf.journal hf.pages) (by simp -implicitDefEqProofs only [go_sem]) ?_
  simp -implicitDefEqProofs only [go_sem]
  try exact ⟨rfl, rfl⟩
 refine ⟨fun e10 => ?_, fun e10 => ?_⟩
 ·rw [ask_10 (tl_f e0) (tl_f e1) (tl_f e2) (tl_f e3) (tl_f e4) (tl_f e5) (tl_f e6) (tl_f e7) (tl_f e8) (tl_f e9) (tl_t e10)]
  refine callX [] (impl_FormatTrek t hf.depots hf.journal h.nums) (by simp -implicitDefEqProofs only [go_sem]) ?_
  simp -implicitDefEqProofs only [go_sem]
  try exact ⟨rfl, rfl⟩
 refine ⟨fun e11 => ?_, fun e11 => ?_⟩
 ·rw [ask_11 (tl_f e0) (tl_f e1) (tl_f e2) (tl_f e3) (tl_f e4) (tl_f e5) (tl_f e6) (tl_f e7) (tl_f e8) (tl_f e9) (tl_f e10) (tl_t e11)]
  refine callX [] (impl_FaultOf t h.sane) (by simp -implicitDefEqProofs only [go_sem]) ?_
  simp -implicitDefEqProofs only [go_sem]
  refine ⟨fun e => ?_, fun e => ?_⟩
  ·rw [if_neg (tl_f e)]; exact ⟨rfl, rfl⟩
  ·rw [if_pos (tl_t e)]; exact ⟨rfl, rfl⟩
 rw [ask_no (tl_f e0) (tl_f e1) (tl_f e2) (tl_f e3) (tl_f e4) (tl_f e5) (tl_f e6) (tl_f e7) (tl_f e8) (tl_f e9) (tl_f e10) (tl_f e11)]
 exact ⟨rfl, rfl⟩
end Go.Abs
