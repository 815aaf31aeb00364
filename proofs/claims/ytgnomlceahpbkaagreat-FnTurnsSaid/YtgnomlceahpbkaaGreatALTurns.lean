/- The law FnTurns: its walk. -/
import Derived.Test.YtgnomlceahpbkaaGreatADrawU
import Derived.Test.YtgnomlceahpbkaaGreatATurnZ
namespace Go.Abs
open Go.RowKit Go.Proofs
set_option linter.unusedVariables false
set_option linter.unusedSimpArgs false
set_option maxRecDepth 100000
set_option maxHeartbeats 4000000

theorem laws_big (code : List Int) (h : code.length ≤ maxLen) : SC Tryz.prog 45 [.at (.im 1 (code.map byteRow))] [] (.at (.v (.bool (decide ((1048576 : Int) < code.length))))) [] := by
  refine SC.of_V mixed Tryz.func45 (by kernel_rfl) rfl Tryz.results45 _ Tryz.ntmps45 (by simp) ?_
  simp -implicitDefEqProofs only [go_sem]
theorem turns_ge {c : DCase} : ((c.l.length : Int) = 0 → ¬ ((latestZ c.x c.base c.r c.l c.p : Nat) : Int) < (calmN c.x c.base c.r c.l c.p : Nat)) := by
  intro h
  have h0 : c.l = [] := List.length_eq_zero_iff.1 (by omega)
  rw [h0]
  have := turn_le (x := c.x) (base := c.base) (r := c.r) (p := c.p)
  omega
theorem swZ_head {w : List Int} {a b : Int} (h : w.getD 0 0 = b) (ha : w[Int.toNat 0]? = some a) : a = b := by
  change w[0]? = some a at ha
  rw [← h, List.getD_eq_getElem?_getD, ha]; rfl
theorem turns_merge {A B C R : Prop} (hR : R) (hB : A → ¬ B) (hC : ¬ C) : (A → (¬ B → (¬ C → R) ∧ (C → False)) ∧ (B → False)) ∧ (¬ A → (¬ C → R) ∧ (C → False)) :=
  ⟨fun h => ⟨fun _ => ⟨fun _ => hR, fun h => hC h⟩, fun h2 => hB h h2⟩, fun _ => ⟨fun _ => hR, fun h => hC h⟩⟩
theorem law_Turns (code : List Int) (code_max : code.length ≤ maxLen) : SC Tryz.prog 14 [.at (.im 1 (code.map byteRow))] [] (.at (.v (.bool true))) [] := by
  refine SC.of_VJ mixed Tryz.func14 (by kernel_rfl) rfl Tryz.results14 _ Tryz.ntmps14 (by simp) ?_
  simp -implicitDefEqProofs only [go_sem]
  refine T.stepJ mixed ?_
  simp -implicitDefEqProofs only [go_sem]
  refine callX [] (laws_big code code_max) (by simp -implicitDefEqProofs only [go_sem]) ?_
  simp -implicitDefEqProofs only [go_sem]
  intro hbig
  have hl : code.length ≤ 1099511627776 := by omega
  have hf : Fine (caseT code) := (case10_ok (newCur_ok hl)).1
  have hx : (caseT code).x.cells.length ≤ 1048576 := Nat.le_trans hf.cells (by decide)
  have hd : (caseT code).l.length ≤ 1048576 := Nat.le_trans hf.depots (by decide)
  have hc : (caseT code).p.crew.length ≤ 1048576 := Nat.le_trans hf.party.crew (by decide)
  have hp : (caseT code).p.past.length ≤ 1048576 := Nat.le_trans hf.party.past (by decide)
  refine callX [] ((spec_DrawLatestTurn code hl).frozen) (by simp -implicitDefEqProofs only [go_sem]) ?_
  simp -implicitDefEqProofs only [go_sem]
  refine callX [] (impl_LatestTurn (caseT code).x (caseT code).base (caseT code).r (caseT code).l (caseT code).p hx hd hc hp) (by simp -implicitDefEqProofs only [go_sem]) ?_
  simp -implicitDefEqProofs only [go_sem]
  refine callX [] (impl_LatestCalm (caseT code).x (caseT code).base (caseT code).r (caseT code).l (caseT code).p hx hd hc hp) (by simp -implicitDefEqProofs only [go_sem]) ?_
  simp -implicitDefEqProofs only [go_sem]
  refine T.stepJ mixed ?_
  simp -implicitDefEqProofs only [go_sem]
  refine callX [] (spec_LatestCalm (caseT code).x (caseT code).base (caseT code).r (caseT code).l (caseT code).p hx hd hc hp) (by simp -implicitDefEqProofs only [go_sem]) ?_
  simp -implicitDefEqProofs only [go_sem]
  have hge := turns_ge (c := caseT code)
  have h100 := latest_100 (x := (caseT code).x) (base := (caseT code).base) (r := (caseT code).r) (l := (caseT code).l) (p := (caseT code).p)
  have hpos := latest_pos (x := (caseT code).x) (base := (caseT code).base) (r := (caseT code).r) (l := (caseT code).l) (p := (caseT code).p)
  have hmay : (decide (0 < ((latestZ (caseT code).x (caseT code).base (caseT code).r (caseT code).l (caseT code).p : Nat) : Int)) == decide (mayWaitP (caseT code).x (caseT code).base (caseT code).r (caseT code).l (caseT code).p)) = true := by
    rw [beq_iff_eq]
    exact decide_eq_decide.2 ⟨fun h => hpos.1 (by omega), fun h => by have := hpos.2 h; omega⟩
  have htl : (targetsZ (caseT code).x (caseT code).base (caseT code).r (caseT code).l (caseT code).p).length ≤ 1048576 := targetsZ_len hx
  have hself : (decide (backP (caseT code).x (caseT code).base (caseT code).r (caseT code).l (caseT code).p) == decide ((caseT code).p.at_ ∈ targetsZ (caseT code).x (caseT code).base (caseT code).r (caseT code).l (caseT code).p)) = true := by
    rw [beq_iff_eq]
    exact decide_eq_decide.2 target_self
  have hsz : (swZ code).length ≤ 1048576 := by
    have hwl : (swW code).length ≤ 66 := wayZ_len _ _ _
    unfold swZ
    split
    · simp; omega
    · omega
  refine T.joinJ mixed [0, 3, 4, 5, 6, 7, 8] (fun vs es => ∃ (_ : Unit), vs = [.at (.im 1 (code.map byteRow)), .at (.bx 100 0 0), .at (.v (.int .i64 ((caseT code).base))), .at (.bx 101 0 0), .at (.im 2 ((caseT code).l.map DDepot.row)), .at (.bx 102 0 0), .at (.v (.int .i64 (latestZ (caseT code).x (caseT code).base (caseT code).r (caseT code).l (caseT code).p : Nat)))] ∧ es = [.box 0 (caseT code).x.ats, .box 0 (caseT code).r.ats, .box 0 (caseT code).p.ats] ∧ True) ?_ ?_
  · simp -implicitDefEqProofs only [go_sem]
    refine ⟨fun h0 => ⟨fun h1 => ⟨fun h2 => ?_, fun h2 => by omega⟩, fun h1 => hge h0 h1⟩, fun h0 => ⟨fun h2 => ?_, fun h2 => by omega⟩⟩
    · refine callX [] (impl_MayWait (caseT code).x (caseT code).base (caseT code).r (caseT code).l (caseT code).p hx hd hc hp) (by simp -implicitDefEqProofs only [go_sem]) ?_
      simp -implicitDefEqProofs only [go_sem]
      exact ⟨fun k => absurd (k.symm.trans hmay) (by decide), fun _ => ⟨(), trivial⟩⟩
    · refine callX [] (impl_MayWait (caseT code).x (caseT code).base (caseT code).r (caseT code).l (caseT code).p hx hd hc hp) (by simp -implicitDefEqProofs only [go_sem]) ?_
      simp -implicitDefEqProofs only [go_sem]
      exact ⟨fun k => absurd (k.symm.trans hmay) (by decide), fun _ => ⟨(), trivial⟩⟩
  rintro _ _ ⟨_, rfl, rfl, _⟩
  simp -implicitDefEqProofs only [go_sem]
  refine T.joinJ mixed [0, 3, 4, 5, 6, 7] (fun vs es => ∃ (_ : Unit), vs = [.at (.im 1 (code.map byteRow)), .at (.bx 100 0 0), .at (.v (.int .i64 ((caseT code).base))), .at (.bx 101 0 0), .at (.im 2 ((caseT code).l.map DDepot.row)), .at (.bx 102 0 0)] ∧ es = [.box 0 (caseT code).x.ats, .box 0 (caseT code).r.ats, .box 0 (caseT code).p.ats] ∧ True) ?_ ?_
  · simp -implicitDefEqProofs only [go_sem]
    refine callX [] (impl_MustTurn (caseT code).x (caseT code).base (caseT code).r (caseT code).l (caseT code).p hx hd hc hp) (by simp -implicitDefEqProofs only [go_sem]) ?_
    simp -implicitDefEqProofs only [go_sem]
    refine ⟨fun hm => ?_, fun hm => ?_⟩
    · refine ⟨fun n0 => ⟨fun hb => ?_, fun hb => hm.1.2.1 hb⟩, fun n0 => hm.1.2.2 (hpos.1 (by omega))⟩
      refine callX [] (impl_CanReturn (caseT code).x (caseT code).base (caseT code).r (caseT code).l (caseT code).p hx hd hc) (by simp -implicitDefEqProofs only [go_sem]) ?_
      simp -implicitDefEqProofs only [go_sem]
      exact ⟨fun k => k hm.1.1, fun _ => ⟨(), trivial⟩⟩
    · exact ⟨(), trivial⟩
  rintro _ _ ⟨_, rfl, rfl, _⟩
  simp -implicitDefEqProofs only [go_sem]
  refine callX [] ((spec_DrawIsSafeWay code hl).frozen) (by simp -implicitDefEqProofs only [go_sem]) ?_
  simp -implicitDefEqProofs only [go_sem]
  refine T.joinJ mixed [3, 4, 5, 6, 7] (fun vs es => ∃ (_ : Unit), vs = [.at (.bx 100 0 0), .at (.v (.int .i64 ((caseT code).base))), .at (.bx 101 0 0), .at (.im 2 ((caseT code).l.map DDepot.row)), .at (.bx 102 0 0)] ∧ es = [.box 0 (caseT code).x.ats, .box 0 (caseT code).r.ats, .box 0 (caseT code).p.ats] ∧ True) ?_ ?_
  · simp -implicitDefEqProofs only [go_sem]
    refine ⟨some [], by decide +kernel, ?_⟩
    simp -implicitDefEqProofs only [go_sem]
    refine callXQ [] (impl_IsSafeWay (caseT code).x (caseT code).base (caseT code).r (caseT code).l (caseT code).p (swZ code) hx hd hc hp hsz) (by simp -implicitDefEqProofs only [go_sem]) ?_
    simp -implicitDefEqProofs only [go_sem]
    refine ⟨fun hs => ?_, fun hs => ?_⟩
    · have hsw := safe_way hs
      refine callXQ [] (impl_IsWay (caseT code).x (swZ code) hx hsz hsw.1 hsw.2.1) (by simp -implicitDefEqProofs only [go_sem]) ?_
      simp -implicitDefEqProofs only [go_sem]
      have hsl := hs.2.1
      refine ⟨by omega, fun a ha => ⟨fun h => h (swZ_head hsw.2.2 ha), fun _ => ⟨(), trivial⟩⟩⟩
    · exact ⟨(), trivial⟩
  rintro _ _ ⟨_, rfl, rfl, _⟩
  simp -implicitDefEqProofs only [go_sem]
  refine callX [] ((impl_SafeTargets (caseT code).x (caseT code).base (caseT code).r (caseT code).l (caseT code).p hx hd hc hp).frozen) (by simp -implicitDefEqProofs only [go_sem]) ?_
  simp -implicitDefEqProofs only [go_sem]
  refine T.stepJ mixed ?_
  simp -implicitDefEqProofs only [go_sem]
  refine ⟨some [], by decide +kernel, ?_⟩
  simp -implicitDefEqProofs only [go_sem]
  refine callXQ [] (laws_ascends (targetsZ (caseT code).x (caseT code).base (caseT code).r (caseT code).l (caseT code).p) htl targets_asc) (by simp -implicitDefEqProofs only [go_sem]) ?_
  simp -implicitDefEqProofs only [go_sem]
  refine callXQ [] (impl_CanReturn (caseT code).x (caseT code).base (caseT code).r (caseT code).l (caseT code).p hx hd hc) (by simp -implicitDefEqProofs only [go_sem]) ?_
  simp -implicitDefEqProofs only [go_sem]
  refine callXQ [] (laws_contains (targetsZ (caseT code).x (caseT code).base (caseT code).r (caseT code).l (caseT code).p) (caseT code).p.at_ htl) (by simp -implicitDefEqProofs only [go_sem]) ?_
  simp -implicitDefEqProofs only [go_sem]
  refine ⟨fun k => absurd (k.symm.trans hself) (by decide), fun _ => ?_⟩
  refine T.loopW mixed [3, 4, 5, 6, 7, 16, 17] (fun mm vs es => ∃ (i : Nat), vs = [.at (.bx 100 0 0), .at (.v (.int .i64 ((caseT code).base))), .at (.bx 101 0 0), .at (.im 2 ((caseT code).l.map DDepot.row)), .at (.bx 102 0 0), .at (.im 1 ((targetsZ (caseT code).x (caseT code).base (caseT code).r (caseT code).l (caseT code).p).map intRow)), .at (.v (.int .i64 (i : Nat)))] ∧ es = [.box 0 (caseT code).x.ats, .box 0 (caseT code).r.ats, .box 0 (caseT code).p.ats] ∧ mm + i = (targetsZ (caseT code).x (caseT code).base (caseT code).r (caseT code).l (caseT code).p).length) ((targetsZ (caseT code).x (caseT code).base (caseT code).r (caseT code).l (caseT code).p).length) ?_ ?_
  · simp -implicitDefEqProofs only [go_sem]
    exact ⟨0, rfl, by omega⟩
  rintro q _ _ ⟨i, rfl, rfl, hn⟩
  simp -implicitDefEqProofs only [go_sem]
  intro hlt
  refine ⟨some [], by decide +kernel, ?_⟩
  simp -implicitDefEqProofs only [go_sem]
  refine ⟨by omega, fun c hcc => ?_⟩
  have hwl := wayZ_len (caseT code).x (caseT code).p.at_ c
  refine callXQ [] ((impl_WayTo (caseT code).x (caseT code).p.at_ c hx).frozen) (by simp -implicitDefEqProofs only [go_sem]) ?_
  simp -implicitDefEqProofs only [go_sem]
  refine callXQ [] (impl_IsSafeWay (caseT code).x (caseT code).base (caseT code).r (caseT code).l (caseT code).p (wayZ (caseT code).x (caseT code).p.at_ c) hx hd hc hp (by omega)) (by simp -implicitDefEqProofs only [go_sem]) ?_
  simp -implicitDefEqProofs only [go_sem]
  refine ⟨fun k => absurd (target_way (mem_get hcc)) k, fun _ => ⟨q - 1, by omega, i + 1, wrapS (by omega) (by omega) (by omega), by omega⟩⟩
end Go.Abs
