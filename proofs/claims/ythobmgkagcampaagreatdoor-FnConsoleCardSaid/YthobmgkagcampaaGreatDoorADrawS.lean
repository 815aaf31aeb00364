/- Expeditions after some steps, as they are drawn. -/
import Derived.Test.YthobmgkagcampaaGreatDoorAFrz
import Derived.Test.YthobmgkagcampaaGreatDoorAComesZ
namespace Go.Abs
open Go.RowKit Go.Proofs
set_option linter.all false
set_option maxRecDepth 100000
set_option maxHeartbeats 4000000
theorem cur_plainS {y : DCur} : ∀ e ∈ [Ent.box 0 y.ats], e.plain = true := by simp [Ent.plain, DCur.ats, A.plain]
noncomputable def to11 (s : DCur) (x : DLand) (p : DParty) : Int × DCur :=
 if (nearZ x p.at_).length = 0 then (belowV s 20, belowS s 20)
 else if onceV s 6 = true then (belowV (belowS s 6) 20, belowS (belowS s 6) 20)
 else ((nearZ x p.at_).getD (belowV (belowS s 6) (nearZ x p.at_).length).toNat 0, belowS (belowS s 6) (nearZ x p.at_).length)
theorem to11_0 {s : DCur} {x : DLand} {p : DParty} (h : (nearZ x p.at_).length = 0) : to11 s x p = (belowV s 20, belowS s 20) := if_pos h
theorem to11_1 {s : DCur} {x : DLand} {p : DParty} (h0 : ¬ (nearZ x p.at_).length = 0) (h : onceV s 6 = true) : to11 s x p = (belowV (belowS s 6) 20, belowS (belowS s 6) 20) := by rw [to11, if_neg h0, if_pos h]
theorem to11_2 {s : DCur} {x : DLand} {p : DParty} (h0 : ¬ (nearZ x p.at_).length = 0) (h : ¬ onceV s 6 = true) : to11 s x p = ((nearZ x p.at_).getD (belowV (belowS s 6) (nearZ x p.at_).length).toNat 0, belowS (belowS s 6) (nearZ x p.at_).length) := by rw [to11, if_neg h0, if_neg h]
theorem to11_ok {s : DCur} {x : DLand} {p : DParty} (h : s.Ok) : (0 <= (to11 s x p).1 /\ (to11 s x p).1 <= 63) /\ (to11 s x p).2.Ok := by
 by_cases h0 : (nearZ x p.at_).length = 0
 ·rw [to11_0 h0]
  have hb := belowV_bnd s 20
  have hb2 := hb.2.1 (by omega)
  exact ⟨by simp only []; omega, belowS_ok h 20⟩
 by_cases h1 : onceV s 6 = true
 ·rw [to11_1 h0 h1]
  have hb := belowV_bnd (belowS s 6) 20
  have hb2 := hb.2.1 (by omega)
  exact ⟨by simp only []; omega, belowS_ok (belowS_ok h 6) 20⟩
 ·rw [to11_2 h0 h1]
  have hb := belowV_bnd (belowS s 6) (nearZ x p.at_).length
  have hb2 := hb.2.1 (by omega)
  refine ⟨?_, belowS_ok (belowS_ok h 6) _⟩
  have hi : (belowV (belowS s 6) (nearZ x p.at_).length).toNat < (nearZ x p.at_).length := by omega
  simp only []
  rw [List.getD_eq_getElem?_getD, List.getElem?_eq_getElem hi]
  have hm := List.getElem_mem hi
  simp only [Option.getD_some]
  generalize (nearZ x p.at_)[(belowV (belowS s 6) (nearZ x p.at_).length).toNat] = e at hm
  unfold nearZ at hm
  split at hm
  ·rename_i hc
   have ho := DLand.near_open hc hm
   exact cell_bnd ho.1
  ·cases hm
theorem spec_l11To (s : DCur) (x : DLand) (p : DParty) (h : s.Ok) (hx : x.cells.length <= 1048576) : SC Tryz.prog 79 [.at (.bx 0 0 0), .ag x.ats, .ag p.ats] [.box 0 s.ats] (.at (.v (.int .i64 ((to11 s x p).1)))) [.box 0 (to11 s x p).2.ats] := by
 refine SC.of_M mixed Tryz.func79 (by kernel_rfl) rfl Tryz.results79 _ Tryz.ntmps79 (by simp) (by simp) ?_
 simp -implicitDefEqProofs only [go_sem, invOf]
 refine callX [] ((spec_Near x p.at_ hx).frozen) (by simp -implicitDefEqProofs only [go_sem]) ?_
 simp -implicitDefEqProofs only [go_sem]
 have hnl := nearZ_len x p.at_
 refine ⟨fun h0 => ?_, fun h0 => ?_⟩
 ·refine callXNB [0] [] (spec_l1Once s 6 h) (by decide) (by simp -implicitDefEqProofs only [go_sem]) (by simp -implicitDefEqProofs only [go_sem]) ?_
  simp -implicitDefEqProofs only [go_sem, invOf]
  have hb := belowV_bnd (belowS s 6) (nearZ x p.at_).length
  have hb2 := hb.2.1 (by omega)
  refine ⟨fun h1 => ?_, fun h1 => ?_⟩
  ·rw [to11_1 (by omega) h1]
   refine callXNB [0] [] (spec_l1Below (belowS s 6) 20 (belowS_ok h 6)) (by decide) (by simp -implicitDefEqProofs only [go_sem]) (by simp -implicitDefEqProofs only [go_sem]) ?_
   simp -implicitDefEqProofs only [go_sem, invOf]
  ·rw [to11_2 (by omega) (by rw [h1]; decide)]
   refine callXNB [0] [] (spec_l1Below (belowS s 6) (nearZ x p.at_).length (belowS_ok h 6)) (by decide) (by simp -implicitDefEqProofs only [go_sem]) (by simp -implicitDefEqProofs only [go_sem]) ?_
   simp -implicitDefEqProofs only [go_sem, invOf]
   refine ⟨by omega, fun c hc => ?_⟩
   rw [List.getD_eq_getElem?_getD, hc]; rfl
 ·rw [to11_0 (by omega)]
  refine callXNB [0] [] (spec_l1Below s 20 h) (by decide) (by simp -implicitDefEqProofs only [go_sem]) (by simp -implicitDefEqProofs only [go_sem]) ?_
  simp -implicitDefEqProofs only [go_sem, invOf]
noncomputable def st34B (t : DTrek) (s : DCur) : Bool := decide (mayP t.rule t.party.past) && onceV s 3
noncomputable def st34S (t : DTrek) (s : DCur) : DCur := if mayP t.rule t.party.past then belowS s 3 else s
noncomputable def ev34 (t : DTrek) (s : DCur) : DEvent × DCur :=
 if belowV (st34S t s) 7 = 0 then (⟨5, 1 + belowV (belowS (st34S t s) 7) 9, false⟩, belowS (belowS (st34S t s) 7) 9)
 else if belowV (st34S t s) 7 = 1 then (⟨4, 0, st34B t s⟩, belowS (st34S t s) 7)
 else if belowV (st34S t s) 7 = 2 then (⟨3, 0, st34B t s⟩, belowS (st34S t s) 7)
 else (⟨2, (to11 (belowS (st34S t s) 7) t.land t.party).1, st34B t s⟩, (to11 (belowS (st34S t s) 7) t.land t.party).2)
theorem st34S_ok {t : DTrek} {s : DCur} (h : s.Ok) : (st34S t s).Ok := by
 unfold st34S; split
 ·exact belowS_ok h 3
 ·exact h
section
variable {t : DTrek} {s : DCur}
theorem ev34_0 (h : belowV (st34S t s) 7 = 0) : ev34 t s = (⟨5, 1 + belowV (belowS (st34S t s) 7) 9, false⟩, belowS (belowS (st34S t s) 7) 9) := if_pos h
theorem ev34_1 (h0 : ¬ belowV (st34S t s) 7 = 0) (h : belowV (st34S t s) 7 = 1) : ev34 t s = (⟨4, 0, st34B t s⟩, belowS (st34S t s) 7) := by rw [ev34, if_neg h0, if_pos h]
theorem ev34_2 (h0 : ¬ belowV (st34S t s) 7 = 0) (h1 : ¬ belowV (st34S t s) 7 = 1) (h : belowV (st34S t s) 7 = 2) : ev34 t s = (⟨3, 0, st34B t s⟩, belowS (st34S t s) 7) := by rw [ev34, if_neg h0, if_neg h1, if_pos h]
theorem ev34_3 (h0 : ¬ belowV (st34S t s) 7 = 0) (h1 : ¬ belowV (st34S t s) 7 = 1) (h : ¬ belowV (st34S t s) 7 = 2) : ev34 t s = (⟨2, (to11 (belowS (st34S t s) 7) t.land t.party).1, st34B t s⟩, (to11 (belowS (st34S t s) 7) t.land t.party).2) := by rw [ev34, if_neg h0, if_neg h1, if_neg h]
theorem ev34_ok (h : s.Ok) : I64 (ev34 t s).1.n /\ (ev34 t s).2.Ok := by
 have hS := st34S_ok (t := t) h
 have hb := belowV_bnd (belowS (st34S t s) 7) 9
 have hb2 := hb.2.1 (by omega)
 have ht := to11_ok (x := t.land) (p := t.party) (belowS_ok hS 7)
 unfold ev34
 split
 ·exact ⟨by unfold I64; simp only []; omega, belowS_ok (belowS_ok hS 7) 9⟩
 split
 ·exact ⟨by unfold I64; simp, belowS_ok hS 7⟩
 split
 ·exact ⟨by unfold I64; simp, belowS_ok hS 7⟩
 ·exact ⟨by unfold I64; simp only []; omega, ht.2⟩
end
noncomputable def it34 : Nat -> DTrek -> DCur -> DTrek × DCur
 | 0, t, s => (t, s)
 | n + 1, t, s => it34 n (applyZ t (ev34 t s).1) (ev34 t s).2
noncomputable def a34 (s : DCur) : DTrek := giveZ (start33 s).1 (roomZ (start33 s).1.party)
noncomputable def n34 (s : DCur) : Nat := (belowV (start33 s).2 9).toNat
noncomputable def draw34 (s : DCur) : DTrek × DCur := it34 (n34 s) (a34 s) (belowS (start33 s).2 9)
theorem Small.sane {t : DTrek} (h : Small t) : t.Sane := ⟨h.fit, h.at_, h.food⟩
theorem giveZ_sane {t : DTrek} {n : Int} (h : t.Sane) : (giveZ t n).Sane := by
 unfold giveZ; split
 ·exact ⟨giveT_fit h.fit, h.at_, I64_wrap _⟩
 ·exact h
theorem it34_ok : ∀ (n : Nat) (t : DTrek) (s : DCur), t.Sane -> s.Ok -> (it34 n t s).1.Sane /\ (it34 n t s).2.Ok := by
 intro n
 induction n with
 | zero => intro t s h1 h2; exact ⟨h1, h2⟩
 | succ n ih => intro t s h1 h2; exact ih _ _ (applyZ_sane h1 (ev34_ok h2).1) (ev34_ok h2).2
theorem n34_ok (s : DCur) : ((n34 s : Nat) : Int) = belowV (start33 s).2 9 /\ n34 s <= 8 := by
 have hb := belowV_bnd (start33 s).2 9
 have hb2 := hb.2.1 (by omega)
 unfold n34; omega
theorem draw34_ok {s : DCur} (h : s.Ok) : (draw34 s).1.Sane /\ (draw34 s).2.Ok := by
 have h1 := start33_ok h
 exact it34_ok _ _ _ (giveZ_sane h1.1.sane) (belowS_ok h1.2 9)
theorem spec_l34Draw (s : DCur) (h : s.Ok) : SC Tryz.prog 25 [.at (.bx 0 0 0)] [.box 0 s.ats] (.ag (draw34 s).1.ats) [.box 0 (draw34 s).2.ats] := by
 have h1 := start33_ok h
 have hn := n34_ok s
 refine SC.of_M mixed Tryz.func25 (by kernel_rfl) rfl Tryz.results25 _ Tryz.ntmps25 (by simp) (by simp) ?_
 simp -implicitDefEqProofs only [go_sem, invOf]
 refine callXNB [0] [] ((spec_l33Start s h).frozenX (by simp) cur_plainS) (by decide) (by simp -implicitDefEqProofs only [go_sem]) (by simp -implicitDefEqProofs only [go_sem]) ?_
 simp -implicitDefEqProofs only [go_sem, invOf]
 refine ⟨some [], by decide +kernel, ?_⟩
 simp -implicitDefEqProofs only [go_sem]
 refine callXQ [] (spec_RoomFor (start33 s).1.party h1.1.fit.crew) (by simp -implicitDefEqProofs only [go_sem]) ?_
 simp -implicitDefEqProofs only [go_sem]
 refine callXQ [] ((spec_StepGive (start33 s).1 (roomZ (start33 s).1.party) h1.1.fit).frozen) (by simp -implicitDefEqProofs only [go_sem]) ?_
 simp -implicitDefEqProofs only [go_sem]
 rw [show giveZ (start33 s).1 (roomZ (start33 s).1.party) = a34 s from rfl]
 refine callXNB [0] [] (spec_l1Below (start33 s).2 9 h1.2) (by decide) (by simp -implicitDefEqProofs only [go_sem]) (by simp -implicitDefEqProofs only [go_sem]) ?_
 simp -implicitDefEqProofs only [go_sem, invOf]
 rw [<- hn.1]
 have hd := draw34_ok h
 unfold draw34
 generalize hA : it34 (n34 s) (a34 s) (belowS (start33 s).2 9) = A
 refine T.loopN mixed (show 1 <= 100 by decide) [0, 2, 3, 4] (fun mm vs ex es => ∃ (y : DCur) (t : DTrek) (i : Nat), vs = [.at (.bx 0 0 0), .at (.bx 100 0 0), .at (.bx 101 0 0), .at (.v (.int .i64 (i : Nat)))] /\ ex = [.box 0 y.ats] /\ es = [.box 0 zeroT, .box 0 t.ats] /\ mm = i /\ i <= 8 /\ y.Ok /\ t.Sane /\ it34 i t y = A) (n34 s) ?_ ?_
 ·simp -implicitDefEqProofs only [go_sem, invOf]
  exact ⟨belowS (start33 s).2 9, a34 s, n34 s, rfl, rfl, rfl, rfl, hn.2, belowS_ok h1.2 9, giveZ_sane h1.1.sane, hA⟩
 rintro q _ _ _ ⟨y, t, i, rfl, rfl, rfl, rfl, hi8, hy, ht, hA2⟩ -
 simp -implicitDefEqProofs only [go_sem, invOf]
 refine ⟨fun hi => ?_, fun hi => ?_⟩
 ·obtain ⟨k, rfl⟩ : ∃ k, q = k + 1 := ⟨q - 1, by omega⟩
  rw [it34] at hA2
  have hE := applyZ_sane ht (ev34_ok (t := t) hy).1
  refine callX [] (spec_MayStorm t.rule t.party.past ht.fit.past) (by simp -implicitDefEqProofs only [go_sem]) ?_
  simp -implicitDefEqProofs only [go_sem]
  refine ⟨fun hm => ?_, fun hm => ?_⟩
  ·refine callXNB [0] [] (spec_l1Once y 3 hy) (by decide) (by simp -implicitDefEqProofs only [go_sem]) (by simp -implicitDefEqProofs only [go_sem]) ?_
   simp -implicitDefEqProofs only [go_sem, invOf]
   have eS : st34S t y = belowS y 3 := if_pos hm
   have eB : st34B t y = onceV y 3 := by unfold st34B; rw [decide_eq_true hm, Bool.true_and]
   have hS : (belowS y 3).Ok := belowS_ok hy 3
   refine callXNB [0] [] (spec_l1Below (belowS y 3) 7 hS) (by decide) (by simp -implicitDefEqProofs only [go_sem]) (by simp -implicitDefEqProofs only [go_sem]) ?_
   simp -implicitDefEqProofs only [go_sem, invOf]
   have h7 : (belowS (belowS y 3) 7).Ok := belowS_ok hS 7
   have v9 := belowV_bnd (belowS (belowS y 3) 7) 9
   have v9b := v9.2.1 (by omega)
   have vt := to11_ok (x := t.land) (p := t.party) h7
   refine ⟨fun k0 => ?_, fun k0 => ⟨fun k1 => ?_, fun k1 => ⟨fun k2 => ?_, fun k2 => ?_⟩⟩⟩
   ·skip
    have ee : ev34 t y = (⟨5, 1 + belowV (belowS (belowS y 3) 7) 9, false⟩, belowS (belowS (belowS y 3) 7) 9) := by rw [ev34_0 (by rw [eS]; exact k0), eS]
    rw [ee] at hA2 hE
    rw [(apply_5 rfl).1] at hA2 hE
    refine ⟨some [999999, 0], by decide +kernel, ?_⟩
    simp -implicitDefEqProofs only [go_sem, invOf]
    refine callXNQ [0] [] (by decide) (spec_l1Below (belowS (belowS y 3) 7) 9 h7) (by decide) (by simp -implicitDefEqProofs only [go_sem]) (by simp -implicitDefEqProofs only [go_sem]) ?_
    simp -implicitDefEqProofs only [go_sem, invOf]
    rw [wrap64 (x := 1 + belowV (belowS (belowS y 3) 7) 9) (by omega) (by omega)]
    refine callXQ [] ((spec_StepLay t (1 + belowV (belowS (belowS y 3) 7) 9) ht.fit).frozen) (by simp -implicitDefEqProofs only [go_sem]) ?_
    simp -implicitDefEqProofs only [go_sem]
    simp -implicitDefEqProofs only [go_sem, invOf]
    exact ⟨k, by omega, belowS (belowS (belowS y 3) 7) 9, _, k, wrapH (by omega) (by omega) (by omega), rfl, rfl, rfl, by omega, belowS_ok h7 9, hE, hA2⟩
   ·skip
    have ee : ev34 t y = (⟨4, 0, (onceV y 3)⟩, (belowS (belowS y 3) 7)) := by rw [ev34_1 (by rw [eS]; exact k0) (by rw [eS]; exact k1), eS, eB]
    rw [ee] at hA2 hE
    rw [(apply_4 rfl).1] at hA2 hE
    refine callX [] ((spec_StepHome t (onceV y 3) ht).frozen) (by simp -implicitDefEqProofs only [go_sem]) ?_
    simp -implicitDefEqProofs only [go_sem]
    simp -implicitDefEqProofs only [go_sem, invOf]
    exact ⟨k, by omega, (belowS (belowS y 3) 7), _, k, wrapH (by omega) (by omega) (by omega), rfl, rfl, rfl, by omega, h7, hE, hA2⟩
   ·skip
    have ee : ev34 t y = (⟨3, 0, (onceV y 3)⟩, (belowS (belowS y 3) 7)) := by rw [ev34_2 (by rw [eS]; exact k0) (by rw [eS]; exact k1) (by rw [eS]; exact k2), eS, eB]
    rw [ee] at hA2 hE
    rw [(apply_3 rfl).1] at hA2 hE
    refine callX [] ((spec_StepWait t (onceV y 3) ht).frozen) (by simp -implicitDefEqProofs only [go_sem]) ?_
    simp -implicitDefEqProofs only [go_sem]
    simp -implicitDefEqProofs only [go_sem, invOf]
    exact ⟨k, by omega, (belowS (belowS y 3) 7), _, k, wrapH (by omega) (by omega) (by omega), rfl, rfl, rfl, by omega, h7, hE, hA2⟩
   ·skip
    have ee : ev34 t y = (⟨2, (to11 (belowS (belowS y 3) 7) t.land t.party).1, (onceV y 3)⟩, (to11 (belowS (belowS y 3) 7) t.land t.party).2) := by rw [ev34_3 (by rw [eS]; exact k0) (by rw [eS]; exact k1) (by rw [eS]; exact k2), eS, eB]
    rw [ee] at hA2 hE
    rw [(apply_2 rfl).1] at hA2 hE
    refine ⟨some [999999, 0], by decide +kernel, ?_⟩
    simp -implicitDefEqProofs only [go_sem, invOf]
    refine callXNQ [0] [] (by decide) (spec_l11To (belowS (belowS y 3) 7) t.land t.party h7 ht.fit.cells) (by decide) (by simp -implicitDefEqProofs only [go_sem]) (by simp -implicitDefEqProofs only [go_sem]) ?_
    simp -implicitDefEqProofs only [go_sem, invOf]
    refine callXQ [] ((spec_StepGo t (to11 (belowS (belowS y 3) 7) t.land t.party).1 (onceV y 3) ht (by unfold I64; omega)).frozen) (by simp -implicitDefEqProofs only [go_sem]) ?_
    simp -implicitDefEqProofs only [go_sem]
    simp -implicitDefEqProofs only [go_sem, invOf]
    exact ⟨k, by omega, (to11 (belowS (belowS y 3) 7) t.land t.party).2, _, k, wrapH (by omega) (by omega) (by omega), rfl, rfl, rfl, by omega, vt.2, hE, hA2⟩
  ·have eS : st34S t y = y := if_neg hm
   have eB : st34B t y = false := by unfold st34B; rw [decide_eq_false hm, Bool.false_and]
   have hS : y.Ok := hy
   refine callXNB [0] [] (spec_l1Below y 7 hS) (by decide) (by simp -implicitDefEqProofs only [go_sem]) (by simp -implicitDefEqProofs only [go_sem]) ?_
   simp -implicitDefEqProofs only [go_sem, invOf]
   have h7 : (belowS y 7).Ok := belowS_ok hS 7
   have v9 := belowV_bnd (belowS y 7) 9
   have v9b := v9.2.1 (by omega)
   have vt := to11_ok (x := t.land) (p := t.party) h7
   refine ⟨fun k0 => ?_, fun k0 => ⟨fun k1 => ?_, fun k1 => ⟨fun k2 => ?_, fun k2 => ?_⟩⟩⟩
   ·skip
    have ee : ev34 t y = (⟨5, 1 + belowV (belowS y 7) 9, false⟩, belowS (belowS y 7) 9) := by rw [ev34_0 (by rw [eS]; exact k0), eS]
    rw [ee] at hA2 hE
    rw [(apply_5 rfl).1] at hA2 hE
    refine ⟨some [999999, 0], by decide +kernel, ?_⟩
    simp -implicitDefEqProofs only [go_sem, invOf]
    refine callXNQ [0] [] (by decide) (spec_l1Below (belowS y 7) 9 h7) (by decide) (by simp -implicitDefEqProofs only [go_sem]) (by simp -implicitDefEqProofs only [go_sem]) ?_
    simp -implicitDefEqProofs only [go_sem, invOf]
    rw [wrap64 (x := 1 + belowV (belowS y 7) 9) (by omega) (by omega)]
    refine callXQ [] ((spec_StepLay t (1 + belowV (belowS y 7) 9) ht.fit).frozen) (by simp -implicitDefEqProofs only [go_sem]) ?_
    simp -implicitDefEqProofs only [go_sem]
    simp -implicitDefEqProofs only [go_sem, invOf]
    exact ⟨k, by omega, belowS (belowS y 7) 9, _, k, wrapH (by omega) (by omega) (by omega), rfl, rfl, rfl, by omega, belowS_ok h7 9, hE, hA2⟩
   ·skip
    have ee : ev34 t y = (⟨4, 0, false⟩, (belowS y 7)) := by rw [ev34_1 (by rw [eS]; exact k0) (by rw [eS]; exact k1), eS, eB]
    rw [ee] at hA2 hE
    rw [(apply_4 rfl).1] at hA2 hE
    refine callX [] ((spec_StepHome t false ht).frozen) (by simp -implicitDefEqProofs only [go_sem]) ?_
    simp -implicitDefEqProofs only [go_sem]
    simp -implicitDefEqProofs only [go_sem, invOf]
    exact ⟨k, by omega, (belowS y 7), _, k, wrapH (by omega) (by omega) (by omega), rfl, rfl, rfl, by omega, h7, hE, hA2⟩
   ·skip
    have ee : ev34 t y = (⟨3, 0, false⟩, (belowS y 7)) := by rw [ev34_2 (by rw [eS]; exact k0) (by rw [eS]; exact k1) (by rw [eS]; exact k2), eS, eB]
    rw [ee] at hA2 hE
    rw [(apply_3 rfl).1] at hA2 hE
    refine callX [] ((spec_StepWait t false ht).frozen) (by simp -implicitDefEqProofs only [go_sem]) ?_
    simp -implicitDefEqProofs only [go_sem]
    simp -implicitDefEqProofs only [go_sem, invOf]
    exact ⟨k, by omega, (belowS y 7), _, k, wrapH (by omega) (by omega) (by omega), rfl, rfl, rfl, by omega, h7, hE, hA2⟩
   ·skip
    have ee : ev34 t y = (⟨2, (to11 (belowS y 7) t.land t.party).1, false⟩, (to11 (belowS y 7) t.land t.party).2) := by rw [ev34_3 (by rw [eS]; exact k0) (by rw [eS]; exact k1) (by rw [eS]; exact k2), eS, eB]
    rw [ee] at hA2 hE
    rw [(apply_2 rfl).1] at hA2 hE
    refine ⟨some [999999, 0], by decide +kernel, ?_⟩
    simp -implicitDefEqProofs only [go_sem, invOf]
    refine callXNQ [0] [] (by decide) (spec_l11To (belowS y 7) t.land t.party h7 ht.fit.cells) (by decide) (by simp -implicitDefEqProofs only [go_sem]) (by simp -implicitDefEqProofs only [go_sem]) ?_
    simp -implicitDefEqProofs only [go_sem, invOf]
    refine callXQ [] ((spec_StepGo t (to11 (belowS y 7) t.land t.party).1 false ht (by unfold I64; omega)).frozen) (by simp -implicitDefEqProofs only [go_sem]) ?_
    simp -implicitDefEqProofs only [go_sem]
    simp -implicitDefEqProofs only [go_sem, invOf]
    exact ⟨k, by omega, (to11 (belowS y 7) t.land t.party).2, _, k, wrapH (by omega) (by omega) (by omega), rfl, rfl, rfl, by omega, vt.2, hE, hA2⟩
 ·obtain rfl : q = 0 := by omega
  rw [it34] at hA2
  subst hA2
  simp -implicitDefEqProofs only [go_sem, invOf]
noncomputable def d34 (code : List Int) : DTrek × DCur := draw34 (newCur code)
theorem d34_ok {code : List Int} (h : code.length <= 1099511627776) : (d34 code).1.Sane /\ (d34 code).2.Ok := draw34_ok (newCur_ok h)
end Go.Abs
