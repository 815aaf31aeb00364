/- Counting: storms, events, open cells, and the cells of a journal. -/
import Derived.Test.YthobmgkagcampaaGreatDoorALand
namespace Go.Abs
open Go.RowKit Go.Proofs
set_option linter.all false
set_option maxRecDepth 100000
def hashStep (d x : Int) : Int := (d * 1000003 + modZ x 2147483647 + 13) % 2147483647
def hashZ (l : List Int) : Int := l.foldl hashStep 11
theorem hashStep_bound (d x : Int) : 0 <= hashStep d x /\ hashStep d x < 2147483647 := ⟨Int.emod_nonneg _ (by decide), Int.emod_lt_of_pos _ (by decide)⟩
theorem hashFold_bound (l : List Int) (d : Int) (h : 0 <= d /\ d < 2147483647) : 0 <= l.foldl hashStep d /\ l.foldl hashStep d < 2147483647 := by
 induction l generalizing d with
 | nil => exact h
 | cons x l ih => exact ih _ (hashStep_bound d x)
theorem hashZ_bound (l : List Int) : 0 <= hashZ l /\ hashZ l < 2147483647 := hashFold_bound l 11 (by omega)
def hashT (l : List Int) (i : Nat) : Int := (l.take i).foldl hashStep 11
theorem hashT_step {l : List Int} {i : Nat} {x : Int} (h : l[i]? = some x) : hashT l (i + 1) = hashStep (hashT l i) x := by
 simp only [hashT, List.take_add_one, h, Option.toList_some, List.foldl_append, List.foldl_cons, List.foldl_nil]
theorem hashT_end {l : List Int} {i : Nat} (h : ¬ (i : Int) < l.length) : hashT l i = hashZ l := by
 rw [hashT, List.take_of_length_le (by omega)]; rfl
theorem modZ_small (x : Int) : 0 <= modZ x 2147483647 /\ modZ x 2147483647 < 2147483647 := by
 rw [modZ, if_pos (by decide)]; exact ⟨Int.emod_nonneg _ (by decide), Int.emod_lt_of_pos _ (by decide)⟩
theorem impl_Hash (l : List Int) (hl : l.length <= 1048576) (hw : ∀ x ∈ l, I64 x) : SC Tryz.prog 322 [.at (.im 1 (l.map intRow))] [] (.at (.v (.int .i64 (hashZ l)))) [] := by
 refine SC.of_V mixed Tryz.func322 (by kernel_rfl) rfl Tryz.results322 _ Tryz.ntmps322 (by simp) ?_
 simp -implicitDefEqProofs only [go_sem]
 refine T.loopW mixed [3, 6, 7, 8] (fun mm vs es => ∃ (i : Nat), vs = [.at (.v (.int .i64 (hashT l i))), .at (.im 1 (l.map intRow)), .at (.v (.int .i64 l.length)), .at (.v (.int .i64 i))] /\ es = [] /\ mm + i = l.length) l.length ?_ ?_
 ·simp -implicitDefEqProofs only [go_sem]; exact ⟨0, ⟨rfl, rfl⟩, by omega⟩
 rintro n _ _ ⟨i, rfl, rfl, hn⟩
 simp -implicitDefEqProofs only [go_sem]
 have hb : 0 <= hashT l i /\ hashT l i < 2147483647 := hashFold_bound _ 11 (by omega)
 refine ⟨fun h => ⟨by omega, fun x hx => ?_⟩, fun h => hashT_end h⟩
 refine callX [] (impl_Mod x 2147483647 (hw x (mem_get hx))) (by simp -implicitDefEqProofs only [go_sem]) ?_
 simp -implicitDefEqProofs only [go_sem]
 have hm := modZ_small x
 have hs := hashT_step hx
 have e : (hashT l i * 1000003 + modZ x 2147483647 + 13).tmod 2147483647 = hashT l (i + 1) := by
  rw [Int.tmod_eq_emod_of_nonneg (by omega), hs]; rfl
 rw [wrap64 (x := hashT l i * 1000003) (by omega) (by omega), wrap64 (x := hashT l i * 1000003 + modZ x 2147483647) (by omega) (by omega), wrap64 (x := hashT l i * 1000003 + modZ x 2147483647 + 13) (by omega) (by omega), e, wrap64 (by omega) (by omega)]
 exact ⟨n - 1, by omega, i + 1, ⟨rfl, rfl⟩, by omega⟩
theorem spec_Hash (l : List Int) (hl : l.length <= 1048576) (hw : ∀ x ∈ l, I64 x) : SC Tryz.prog 315 [.at (.im 1 (l.map intRow))] [] (.at (.v (.int .i64 (hashZ l)))) [] := by
 refine SC.of_V mixed Tryz.func315 (by kernel_rfl) rfl Tryz.results315 _ Tryz.ntmps315 (by simp) ?_
 simp -implicitDefEqProofs only [go_sem]
 refine T.loopW mixed [0, 3, 4] (fun mm vs es => ∃ (i : Nat), vs = [.at (.im 1 (l.map intRow)), .at (.v (.int .i64 (hashT l i))), .at (.v (.int .i64 i))] /\ es = [] /\ mm + i = l.length) l.length ?_ ?_
 ·simp -implicitDefEqProofs only [go_sem]; exact ⟨0, ⟨rfl, rfl⟩, by omega⟩
 rintro n _ _ ⟨i, rfl, rfl, hn⟩
 simp -implicitDefEqProofs only [go_sem]
 have hb : 0 <= hashT l i /\ hashT l i < 2147483647 := hashFold_bound _ 11 (by omega)
 refine ⟨fun h => ⟨by omega, fun x hx => ?_⟩, fun h => hashT_end h⟩
 refine callX [] (spec_Mod x 2147483647 (hw x (mem_get hx))) (by simp -implicitDefEqProofs only [go_sem]) ?_
 simp -implicitDefEqProofs only [go_sem]
 have hm := modZ_small x
 have hs := hashT_step hx
 have e : (hashT l i * 1000003 + modZ x 2147483647 + 13).tmod 2147483647 = hashT l (i + 1) := by
  rw [Int.tmod_eq_emod_of_nonneg (by omega), hs]; rfl
 rw [wrap64 (x := hashT l i * 1000003) (by omega) (by omega), wrap64 (x := hashT l i * 1000003 + modZ x 2147483647) (by omega) (by omega), wrap64 (x := hashT l i * 1000003 + modZ x 2147483647 + 13) (by omega) (by omega), e, wrap64 (by omega) (by omega)]
 exact ⟨n - 1, by omega, i + 1, ⟨rfl, rfl⟩, by omega⟩
def sealZ (b : Int) (p : DPage) : Int := hashZ [b, p.day, p.cell, p.food]
theorem sealZ_bound (b : Int) (p : DPage) : 0 <= sealZ b p /\ sealZ b p < 2147483647 := hashZ_bound _
theorem impl_sealOf (b : Int) (p : DPage) (hb : I64 b) (hp : p.wf) : SC Tryz.prog 306 [.at (.v (.int .i64 b)), .ag p.ats] [] (.at (.v (.int .i64 (sealZ b p)))) [] := by
 refine SC.of_V mixed Tryz.func306 (by kernel_rfl) rfl Tryz.results306 _ Tryz.ntmps306 (by simp) ?_
 simp -implicitDefEqProofs only [go_sem]
 refine callX [1192] (impl_Hash [b, p.day, p.cell, p.food] (by simp) (by simp; exact ⟨hb, hp.1, hp.2.1, hp.2.2.1⟩)) (by simp -implicitDefEqProofs only [go_sem]) ?_
 simp -implicitDefEqProofs only [go_sem]
 rfl
theorem spec_l21Seal (b : Int) (p : DPage) (hb : I64 b) (hp : p.wf) : SC Tryz.prog 291 [.at (.v (.int .i64 b)), .ag p.ats] [] (.at (.v (.int .i64 (sealZ b p)))) [] := by
 refine SC.of_V mixed Tryz.func291 (by kernel_rfl) rfl Tryz.results291 _ Tryz.ntmps291 (by simp) ?_
 simp -implicitDefEqProofs only [go_sem]
 refine callX [1192] (spec_Hash [b, p.day, p.cell, p.food] (by simp) (by simp; exact ⟨hb, hp.1, hp.2.1, hp.2.2.1⟩)) (by simp -implicitDefEqProofs only [go_sem]) ?_
 simp -implicitDefEqProofs only [go_sem]
 rfl
def prevP (l : List DPage) (i : Nat) : DPage := if i = 0 then ⟨-1, 0, 0, 0⟩ else l.getD (i - 1) ⟨-1, 0, 0, 0⟩
theorem prevP_0 {l : List DPage} : prevP l 0 = ⟨-1, 0, 0, 0⟩ := rfl
theorem prevP_S {l : List DPage} {i : Nat} {p : DPage} (h : l[i]? = some p) : prevP l (i + 1) = p := by
 rw [prevP, if_neg (by omega), List.getD_eq_getElem?_getD, Nat.add_sub_cancel, h]; rfl
theorem prevP_get {l : List DPage} {i : Nat} {p : DPage} (h : l[i - 1]? = some p) (hi : 0 < i) : prevP l i = p := by
 rw [prevP, if_neg (by omega), List.getD_eq_getElem?_getD, h]; rfl
theorem prevP_64 {l : List DPage} (h : ∀ p ∈ l, p.wf) (i : Nat) : I64 (prevP l i).mark := by
 unfold prevP
 split
 ·simp [I64]
 ·rw [List.getD_eq_getElem?_getD]
  cases e : l[i - 1]? with
  | none => simp [I64]
  | some p => exact (h p (mem_get e)).2.2.2
def okP (l : List DPage) (i : Nat) (p : DPage) : Prop := ((prevP l i).day + 1 <= p.day /\ p.day <= 10000) /\ (0 <= p.cell /\ p.cell <= 63) /\ (0 <= p.food /\ p.food <= 10000) /\ p.mark = sealZ (prevP l i).mark p
def Journal (l : List DPage) : Prop := Each (okP l) l /\ l.length <= 100
noncomputable instance (l : List DPage) : Decidable (Journal l) := Classical.propDecidable _
theorem prev_day {l : List DPage} {i : Nat} (h : EachTo (okP l) l i) : ∀ j, j <= i -> -1 <= (prevP l j).day := by
 intro j
 induction j with
 | zero => intro _; simp [prevP_0]
 | succ j ih =>
  intro hj
  cases e : l[j]? with
  | none => rw [prevP, if_neg (by omega), List.getD_eq_getElem?_getD, Nat.add_sub_cancel, e]; simp
  | some p =>
   rw [prevP_S e]
   have := (h j p (by omega) e).1
   have := ih (by omega)
   omega
theorem impl_IsJournal (l : List DPage) (hl : l.length <= 1048576) (hw : ∀ p ∈ l, p.wf) : SC Tryz.prog 275 [.at (.im 4 (l.map DPage.row))] [] (.at (.v (.bool (decide (Journal l))))) [] := by
 refine SC.of_V mixed Tryz.func275 (by kernel_rfl) rfl Tryz.results275 _ Tryz.ntmps275 (by simp) ?_
 simp -implicitDefEqProofs only [go_sem]
 refine T.loopW mixed [0, 3, 4, 7, 8, 9] (fun mm vs es => ∃ (i : Nat), vs = [.at (.im 4 (l.map DPage.row)), .at (.v (.int .i64 ((prevP l i).mark))), .at (.v (.int .i64 ((prevP l i).day))), .at (.im 4 (l.map DPage.row)), .at (.v (.int .i64 l.length)), .at (.v (.int .i64 i))] /\ es = [] /\ mm + i = l.length /\ EachTo (okP l) l i /\ -1 <= (prevP l i).day /\ (prevP l i).day <= 10000) l.length ?_ ?_
 ·simp -implicitDefEqProofs only [go_sem]; exact ⟨0, by simp [prevP_0], by omega, each0, by simp [prevP_0]⟩
 rintro n _ _ ⟨i, rfl, rfl, hn, hi, hd1, hd2⟩
 simp -implicitDefEqProofs only [go_sem]
 refine ⟨fun h => ⟨by omega, fun p hp => ?_⟩, fun h => ?_⟩
 ·refine ⟨some [], by decide +kernel, ?_⟩
  simp -implicitDefEqProofs only [go_sem]
  rw [wrap64 (by omega) (by omega)]
  refine callXQ [] (impl_InRange p.day ((prevP l i).day + 1) 10000) (by simp -implicitDefEqProofs only [go_sem]) ?_
  simp -implicitDefEqProofs only [go_sem]
  refine ⟨fun k1 => ?_, fun k1 => dec_f fun hj => eachNot hp (fun h => k1 h.1) hj.1⟩
  refine callXQ [] (impl_InRange p.cell 0 63) (by simp -implicitDefEqProofs only [go_sem]) ?_
  simp -implicitDefEqProofs only [go_sem]
  refine ⟨fun k2 => ?_, fun k2 => dec_f fun hj => eachNot hp (fun h => k2 h.2.1) hj.1⟩
  refine callXQ [] (impl_InRange p.food 0 10000) (by simp -implicitDefEqProofs only [go_sem]) ?_
  simp -implicitDefEqProofs only [go_sem]
  refine ⟨fun k3 => ?_, fun k3 => dec_f fun hj => eachNot hp (fun h => k3 h.2.2.1) hj.1⟩
  refine callXQ [] (impl_sealOf (prevP l i).mark p (prevP_64 hw i) (hw p (mem_get hp))) (by simp -implicitDefEqProofs only [go_sem]) ?_
  simp -implicitDefEqProofs only [go_sem]
  refine ⟨fun k4 => dec_f fun hj => eachNot hp (fun h => k4 h.2.2.2) hj.1, fun k4 => ?_⟩
  refine ⟨some [], by decide +kernel, ?_⟩
  simp -implicitDefEqProofs only [go_sem]
  rw [wrap64 (by omega) (by omega)]
  exact ⟨n - 1, by omega, i + 1, by rw [prevP_S hp]; simp, by omega, eachS hi hp ⟨k1, k2, k3, k4⟩, by rw [prevP_S hp]; omega, by rw [prevP_S hp]; omega⟩
 ·exact decide_eq_decide.2 ⟨fun h2 => ⟨eachEnd hi h, by omega⟩, fun h2 => by have := h2.2; omega⟩
theorem spec_IsJournal (l : List DPage) (hl : l.length <= 1048576) (hw : ∀ p ∈ l, p.wf) : SC Tryz.prog 218 [.at (.im 4 (l.map DPage.row))] [] (.at (.v (.bool (decide (Journal l))))) [] := by
 refine SC.of_V mixed Tryz.func218 (by kernel_rfl) rfl Tryz.results218 _ Tryz.ntmps218 (by simp) ?_
 simp -implicitDefEqProofs only [go_sem]
 refine T.loopW mixed [0, 3, 4] (fun mm vs es => ∃ (i : Nat), vs = [.at (.im 4 (l.map DPage.row)), .at (.v (.int .i64 ((prevP l i).mark))), .at (.v (.int .i64 i))] /\ es = [] /\ mm + i = l.length /\ EachTo (okP l) l i) l.length ?_ ?_
 ·simp -implicitDefEqProofs only [go_sem]; exact ⟨0, by simp [prevP_0], by omega, each0⟩
 rintro n _ _ ⟨i, rfl, rfl, hn, hi⟩
 simp -implicitDefEqProofs only [go_sem]
 refine ⟨fun h => ⟨fun h100 => ⟨by omega, fun p hp => ?_⟩, fun h100 => ?_⟩, fun h => ?_⟩
 ·refine callX [] (spec_l21Seal (prevP l i).mark p (prevP_64 hw i) (hw p (mem_get hp))) (by simp -implicitDefEqProofs only [go_sem]) ?_
  simp -implicitDefEqProofs only [go_sem]
  refine ⟨some [], by decide +kernel, ?_⟩
  simp -implicitDefEqProofs only [go_sem]
  refine callXQ [] (spec_l1In p.day 0 10000) (by simp -implicitDefEqProofs only [go_sem]) ?_
  simp -implicitDefEqProofs only [go_sem]
  have no : (okP l i p -> False) -> false = decide (Journal l) := fun hk => dec_f fun hj => eachNot hp hk hj.1
  have hd1 := prev_day hi i (Nat.le_refl _)
  refine ⟨fun k1 => ?_, fun k1 => no fun h => k1 (by have := h.1; omega)⟩
  refine callXQ [] (spec_l1In p.cell 0 63) (by simp -implicitDefEqProofs only [go_sem]) ?_
  simp -implicitDefEqProofs only [go_sem]
  refine ⟨fun k2 => ?_, fun k2 => no fun h => k2 h.2.1⟩
  refine callXQ [] (spec_l1In p.food 0 10000) (by simp -implicitDefEqProofs only [go_sem]) ?_
  simp -implicitDefEqProofs only [go_sem]
  refine ⟨fun k3 => ?_, fun k3 => no fun h => k3 h.2.2.1⟩
  refine ⟨fun k4 => ?_, fun k4 => no fun h => k4 h.2.2.2⟩
  have next : okP l i p -> (∃ n', n' < n /\ ∃ i_1 : Nat, (sealZ (prevP l i).mark p = (prevP l i_1).mark /\ IntKind.i64.wrap (↑i + 1) = ↑i_1) /\ n' + i_1 = l.length /\ EachTo (okP l) l i_1) := fun hk =>
   ⟨n - 1, by omega, i + 1, ⟨by rw [prevP_S hp]; exact k4.symm, by rw [wrap64 (by omega) (by omega)]; rfl⟩, by omega, eachS hi hp hk⟩
  refine ⟨fun h0 => ?_, fun h0 => next ⟨⟨?_, k1.2⟩, k2, k3, k4⟩⟩
  ·rw [wrap64 (by omega) (by omega), show ((i : Int) - 1).toNat = i - 1 by omega]
   refine ⟨by omega, fun q hq => ?_⟩
   have e := prevP_get hq (by omega)
   exact ⟨fun k5 => no fun h => by have := h.1.1; rw [e] at this; omega, fun k5 => next ⟨⟨by rw [e]; omega, k1.2⟩, k2, k3, k4⟩⟩
  ·have : i = 0 := by omega
   subst this
   simp [prevP_0]; omega
 ·exact decide_eq_decide.2 ⟨fun h2 => absurd h2 h100, fun h2 => absurd (by have := h2.2; omega) h100⟩
 ·exact decide_eq_decide.2 ⟨fun h2 => ⟨eachEnd hi h, by omega⟩, fun h2 => by have := h2.2; omega⟩
end Go.Abs
namespace Go.Abs
open Go.RowKit Go.Proofs
set_option linter.all false
set_option maxRecDepth 100000
def stormZ (l : List Bool) : Int := sumL (fun b => if b = true then 1 else 0) l
theorem impl_CountStorms (l : List Bool) (hl : l.length <= 1048576) : SC Tryz.prog 301 [.at (.im 1 (l.map boolRow))] [] (.at (.v (.int .i64 (stormZ l)))) [] := by
 refine SC.of_V mixed Tryz.func301 (by kernel_rfl) rfl Tryz.results301 _ Tryz.ntmps301 (by simp) ?_
 simp -implicitDefEqProofs only [go_sem]
 refine T.loopW mixed [3, 6, 7, 8] (fun mm vs es => ∃ (i : Nat), vs = [.at (.v (.int .i64 (sumT (fun b => if b = true then 1 else 0) l i))), .at (.im 1 (l.map boolRow)), .at (.v (.int .i64 l.length)), .at (.v (.int .i64 i))] /\ es = [] /\ mm + i = l.length) l.length ?_ ?_
 ·simp -implicitDefEqProofs only [go_sem]; exact ⟨0, ⟨sum0.symm, rfl⟩, by omega⟩
 rintro n _ _ ⟨i, rfl, rfl, hn⟩
 simp -implicitDefEqProofs only [go_sem]
 have hb := sum_bound (f := fun b : Bool => if b = true then 1 else 0) (l := l) (B := 1) (i := i) (fun c _ => by split <;> omega) (by omega)
 refine ⟨fun h => ⟨by omega, fun c hc => ⟨fun e => ?_, fun e => ?_⟩⟩, fun h => sumEnd h⟩
 ·rw [wrap64 (by omega) (by omega), wrap64 (by omega) (by omega)]
  exact ⟨n - 1, by omega, i + 1, ⟨by rw [sumS hc, if_pos e], rfl⟩, by omega⟩
 ·rw [wrap64 (by omega) (by omega)]
  exact ⟨n - 1, by omega, i + 1, ⟨by rw [sumS hc, if_neg (by simp [e])]; simp, rfl⟩, by omega⟩
theorem spec_CountStorms (l : List Bool) (hl : l.length <= 1048576) : SC Tryz.prog 163 [.at (.im 1 (l.map boolRow))] [] (.at (.v (.int .i64 (stormZ l)))) [] := by
 refine SC.of_V mixed Tryz.func163 (by kernel_rfl) rfl Tryz.results163 _ Tryz.ntmps163 (by simp) ?_
 simp -implicitDefEqProofs only [go_sem]
 refine T.loopW mixed [0, 3, 4] (fun mm vs es => ∃ (i : Nat), vs = [.at (.im 1 (l.map boolRow)), .at (.v (.int .i64 (sumT (fun b => if b = true then 1 else 0) l i))), .at (.v (.int .i64 i))] /\ es = [] /\ mm + i = l.length) l.length ?_ ?_
 ·simp -implicitDefEqProofs only [go_sem]; exact ⟨0, ⟨sum0.symm, rfl⟩, by omega⟩
 rintro n _ _ ⟨i, rfl, rfl, hn⟩
 simp -implicitDefEqProofs only [go_sem]
 have hb := sum_bound (f := fun b : Bool => if b = true then 1 else 0) (l := l) (B := 1) (i := i) (fun c _ => by split <;> omega) (by omega)
 refine ⟨fun h => ⟨by omega, fun c hc => ⟨fun e => ?_, fun e => ?_⟩⟩, fun h => sumEnd h⟩
 ·rw [wrap64 (by omega) (by omega), wrap64 (by omega) (by omega)]
  exact ⟨n - 1, by omega, i + 1, ⟨by rw [sumS hc, if_pos e], rfl⟩, by omega⟩
 ·rw [wrap64 (by omega) (by omega)]
  exact ⟨n - 1, by omega, i + 1, ⟨by rw [sumS hc, if_neg (by simp [e])]; simp, rfl⟩, by omega⟩
noncomputable def visitTo (l : List DPage) (c : Nat) : List Int := ((List.range c).filter fun (c : Nat) => decide (∃ p ∈ l, p.cell = (c : Int))).map fun (c : Nat) => (c : Int)
end Go.Abs
