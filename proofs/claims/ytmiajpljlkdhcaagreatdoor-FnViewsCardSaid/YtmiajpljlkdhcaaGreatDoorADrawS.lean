/- Expeditions after some steps, as they are drawn. -/
import Derived.Test.YtmiajpljlkdhcaaGreatDoorADrawT
import Derived.Test.YtmiajpljlkdhcaaGreatDoorAFrz
import Derived.Test.YtmiajpljlkdhcaaGreatDoorAEvtR
namespace Go.Abs
open Go.RowKit Go.Proofs
set_option linter.unusedVariables false
set_option linter.unusedSimpArgs false
set_option maxRecDepth 100000
set_option maxHeartbeats 4000000

theorem cur_plainS {y : DCur} : ∀ e ∈ [Ent.box 0 y.ats], e.plain = true := by simp [Ent.plain, DCur.ats, A.plain]
/-! ### Where to go -/
noncomputable def to11 (s : DCur) (x : DLand) (p : DParty) : Int × DCur :=
  if (nearZ x p.at_).length = 0 then (belowV s 20, belowS s 20)
  else if onceV s 6 = true then (belowV (belowS s 6) 20, belowS (belowS s 6) 20)
  else ((nearZ x p.at_).getD (belowV (belowS s 6) (nearZ x p.at_).length).toNat 0, belowS (belowS s 6) (nearZ x p.at_).length)
theorem to11_0 {s : DCur} {x : DLand} {p : DParty} (h : (nearZ x p.at_).length = 0) : to11 s x p = (belowV s 20, belowS s 20) := if_pos h
theorem to11_1 {s : DCur} {x : DLand} {p : DParty} (h0 : ¬ (nearZ x p.at_).length = 0) (h : onceV s 6 = true) : to11 s x p = (belowV (belowS s 6) 20, belowS (belowS s 6) 20) := by rw [to11, if_neg h0, if_pos h]
theorem to11_2 {s : DCur} {x : DLand} {p : DParty} (h0 : ¬ (nearZ x p.at_).length = 0) (h : ¬ onceV s 6 = true) : to11 s x p = ((nearZ x p.at_).getD (belowV (belowS s 6) (nearZ x p.at_).length).toNat 0, belowS (belowS s 6) (nearZ x p.at_).length) := by rw [to11, if_neg h0, if_neg h]
theorem to11_ok {s : DCur} {x : DLand} {p : DParty} (h : s.Ok) : (0 ≤ (to11 s x p).1 ∧ (to11 s x p).1 ≤ 63) ∧ (to11 s x p).2.Ok := by
  by_cases h0 : (nearZ x p.at_).length = 0
  · rw [to11_0 h0]
    have hb := belowV_bnd s 20
    have hb2 := hb.2.1 (by omega)
    exact ⟨by simp only []; omega, belowS_ok h 20⟩
  by_cases h1 : onceV s 6 = true
  · rw [to11_1 h0 h1]
    have hb := belowV_bnd (belowS s 6) 20
    have hb2 := hb.2.1 (by omega)
    exact ⟨by simp only []; omega, belowS_ok (belowS_ok h 6) 20⟩
  · rw [to11_2 h0 h1]
    have hb := belowV_bnd (belowS s 6) (nearZ x p.at_).length
    have hb2 := hb.2.1 (by omega)
    refine ⟨?_, belowS_ok (belowS_ok h 6) _⟩
    have hi : (belowV (belowS s 6) (nearZ x p.at_).length).toNat < (nearZ x p.at_).length := by omega
    simp only []
    rw [List.getD_eq_getElem?_getD, List.getElem?_eq_getElem hi]
    have hm := List.getElem_mem hi
    simp only [Option.getD_some]
    generalize (nearZ x p.at_)[(belowV (belowS s 6) (nearZ x p.at_).length).toNat] = e at hm
    unfold nearZ at hm
    split at hm
    · rename_i hc
      have ho := DLand.near_open hc hm
      exact cell_bnd ho.1
    · cases hm
theorem spec_l11To (s : DCur) (x : DLand) (p : DParty) (h : s.Ok) (hx : x.cells.length ≤ 1048576) : SC Tryz.prog 47 [.at (.bx 0 0 0), .ag x.ats, .ag p.ats] [.box 0 s.ats] (.at (.v (.int .i64 ((to11 s x p).1)))) [.box 0 (to11 s x p).2.ats] := by
  refine SC.of_M mixed Tryz.func47 (by kernel_rfl) rfl Tryz.results47 _ Tryz.ntmps47 (by simp) (by simp) ?_
  simp -implicitDefEqProofs only [go_sem, invOf]
  refine callX [] ((spec_Near x p.at_ hx).frozen) (by simp -implicitDefEqProofs only [go_sem]) ?_
  simp -implicitDefEqProofs only [go_sem]
  have hnl := nearZ_len x p.at_
  refine ⟨fun h0 => ?_, fun h0 => ?_⟩
  · refine callXNB [0] [] (spec_l1Once s 6 h) (by decide) (by simp -implicitDefEqProofs only [go_sem]) (by simp -implicitDefEqProofs only [go_sem]) ?_
    simp -implicitDefEqProofs only [go_sem, invOf]
    have hb := belowV_bnd (belowS s 6) (nearZ x p.at_).length
    have hb2 := hb.2.1 (by omega)
    refine ⟨fun h1 => ?_, fun h1 => ?_⟩
    · rw [to11_1 (by omega) h1]
      refine callXNB [0] [] (spec_l1Below (belowS s 6) 20 (belowS_ok h 6)) (by decide) (by simp -implicitDefEqProofs only [go_sem]) (by simp -implicitDefEqProofs only [go_sem]) ?_
      simp -implicitDefEqProofs only [go_sem, invOf]
    · rw [to11_2 (by omega) (by rw [h1]; decide)]
      refine callXNB [0] [] (spec_l1Below (belowS s 6) (nearZ x p.at_).length (belowS_ok h 6)) (by decide) (by simp -implicitDefEqProofs only [go_sem]) (by simp -implicitDefEqProofs only [go_sem]) ?_
      simp -implicitDefEqProofs only [go_sem, invOf]
      refine ⟨by omega, fun c hc => ?_⟩
      rw [List.getD_eq_getElem?_getD, hc]; rfl
  · rw [to11_0 (by omega)]
    refine callXNB [0] [] (spec_l1Below s 20 h) (by decide) (by simp -implicitDefEqProofs only [go_sem]) (by simp -implicitDefEqProofs only [go_sem]) ?_
    simp -implicitDefEqProofs only [go_sem, invOf]
/-! ### One step -/
noncomputable def st34B (t : DTrek) (s : DCur) : Bool := decide (mayP t.rule t.party.past) && onceV s 3
noncomputable def st34S (t : DTrek) (s : DCur) : DCur := if mayP t.rule t.party.past then belowS s 3 else s
noncomputable def ev34 (t : DTrek) (s : DCur) : DEvent × DCur :=
  if belowV (st34S t s) 7 = 0 then (⟨5, 1 + belowV (belowS (st34S t s) 7) 9, false⟩, belowS (belowS (st34S t s) 7) 9)
  else if belowV (st34S t s) 7 = 1 then (⟨4, 0, st34B t s⟩, belowS (st34S t s) 7)
  else if belowV (st34S t s) 7 = 2 then (⟨3, 0, st34B t s⟩, belowS (st34S t s) 7)
  else (⟨2, (to11 (belowS (st34S t s) 7) t.land t.party).1, st34B t s⟩, (to11 (belowS (st34S t s) 7) t.land t.party).2)
theorem st34S_ok {t : DTrek} {s : DCur} (h : s.Ok) : (st34S t s).Ok := by
  unfold st34S; split
  · exact belowS_ok h 3
  · exact h
section
variable {t : DTrek} {s : DCur}
theorem ev34_0 (h : belowV (st34S t s) 7 = 0) : ev34 t s = (⟨5, 1 + belowV (belowS (st34S t s) 7) 9, false⟩, belowS (belowS (st34S t s) 7) 9) := if_pos h
theorem ev34_1 (h0 : ¬ belowV (st34S t s) 7 = 0) (h : belowV (st34S t s) 7 = 1) : ev34 t s = (⟨4, 0, st34B t s⟩, belowS (st34S t s) 7) := by rw [ev34, if_neg h0, if_pos h]
theorem ev34_2 (h0 : ¬ belowV (st34S t s) 7 = 0) (h1 : ¬ belowV (st34S t s) 7 = 1) (h : belowV (st34S t s) 7 = 2) : ev34 t s = (⟨3, 0, st34B t s⟩, belowS (st34S t s) 7) := by rw [ev34, if_neg h0, if_neg h1, if_pos h]
theorem ev34_3 (h0 : ¬ belowV (st34S t s) 7 = 0) (h1 : ¬ belowV (st34S t s) 7 = 1) (h : ¬ belowV (st34S t s) 7 = 2) : ev34 t s = (⟨2, (to11 (belowS (st34S t s) 7) t.land t.party).1, st34B t s⟩, (to11 (belowS (st34S t s) 7) t.land t.party).2) := by rw [ev34, if_neg h0, if_neg h1, if_neg h]
theorem ev34_ok (h : s.Ok) : I64 (ev34 t s).1.n ∧ (ev34 t s).2.Ok := by
  have hS := st34S_ok (t := t) h
  have hb := belowV_bnd (belowS (st34S t s) 7) 9
  have hb2 := hb.2.1 (by omega)
  have ht := to11_ok (x := t.land) (p := t.party) (belowS_ok hS 7)
  unfold ev34
  split
  · exact ⟨by unfold I64; simp only []; omega, belowS_ok (belowS_ok hS 7) 9⟩
  split
  · exact ⟨by unfold I64; simp, belowS_ok hS 7⟩
  split
  · exact ⟨by unfold I64; simp, belowS_ok hS 7⟩
  · exact ⟨by unfold I64; simp only []; omega, ht.2⟩
end
noncomputable def it34 : Nat → DTrek → DCur → DTrek × DCur
  | 0, t, s => (t, s)
  | n + 1, t, s => it34 n (applyZ t (ev34 t s).1) (ev34 t s).2
noncomputable def a34 (s : DCur) : DTrek := giveZ (start33 s).1 (roomZ (start33 s).1.party)
noncomputable def n34 (s : DCur) : Nat := (belowV (start33 s).2 9).toNat
noncomputable def draw34 (s : DCur) : DTrek × DCur := it34 (n34 s) (a34 s) (belowS (start33 s).2 9)
theorem Small.sane {t : DTrek} (h : Small t) : t.Sane := ⟨h.fit, h.at_, h.food⟩
theorem giveZ_sane {t : DTrek} {n : Int} (h : t.Sane) : (giveZ t n).Sane := by
  unfold giveZ; split
  · exact ⟨giveT_fit h.fit, h.at_, I64_wrap _⟩
  · exact h
theorem it34_ok : ∀ (n : Nat) (t : DTrek) (s : DCur), t.Sane → s.Ok → (it34 n t s).1.Sane ∧ (it34 n t s).2.Ok := by
  intro n
  induction n with
  | zero => intro t s h1 h2; exact ⟨h1, h2⟩
  | succ n ih => intro t s h1 h2; exact ih _ _ (applyZ_sane h1 (ev34_ok h2).1) (ev34_ok h2).2
theorem n34_ok (s : DCur) : ((n34 s : Nat) : Int) = belowV (start33 s).2 9 ∧ n34 s ≤ 8 := by
  have hb := belowV_bnd (start33 s).2 9
  have hb2 := hb.2.1 (by omega)
  unfold n34; omega
theorem draw34_ok {s : DCur} (h : s.Ok) : (draw34 s).1.Sane ∧ (draw34 s).2.Ok := by
  have h1 := start33_ok h
  exact it34_ok _ _ _ (giveZ_sane h1.1.sane) (belowS_ok h1.2 9)
/-! ### The laws' draws -/
noncomputable def d34 (code : List Int) : DTrek × DCur := draw34 (newCur code)
theorem d34_ok {code : List Int} (h : code.length ≤ 1099511627776) : (d34 code).1.Sane ∧ (d34 code).2.Ok := draw34_ok (newCur_ok h)
noncomputable def sg (code : List Int) : DTrek × DCur :=
  if onceV (d34 code).2 2 = true then start33 (belowS (d34 code).2 2) else ((d34 code).1, belowS (d34 code).2 2)
theorem sg_1 {code : List Int} (h : onceV (d34 code).2 2 = true) : sg code = start33 (belowS (d34 code).2 2) := if_pos h
theorem sg_0 {code : List Int} (h : onceV (d34 code).2 2 = false) : sg code = ((d34 code).1, belowS (d34 code).2 2) := if_neg (by rw [h]; decide)
theorem sg_ok {code : List Int} (h : code.length ≤ 1099511627776) : (sg code).1.Sane ∧ (sg code).2.Ok := by
  have h1 := d34_ok h
  have h2 : (belowS (d34 code).2 2).Ok := belowS_ok h1.2 2
  unfold sg
  split
  · exact ⟨(start33_ok h2).1.sane, (start33_ok h2).2⟩
  · exact ⟨h1.1, h2⟩
noncomputable def sgN (code : List Int) : Int := intV (sg code).2 [1, 5, roomZ (sg code).1.party, IntKind.i64.wrap (roomZ (sg code).1.party + 1), 0]
noncomputable def so (code : List Int) : Int × DCur := to11 (d34 code).2 (d34 code).1.land (d34 code).1.party
theorem so_ok {code : List Int} (h : code.length ≤ 1099511627776) : I64 (so code).1 ∧ (so code).2.Ok := by
  have := to11_ok (x := (d34 code).1.land) (p := (d34 code).1.party) (d34_ok h).2
  exact ⟨by unfold I64 so; omega, this.2⟩
noncomputable def slN (code : List Int) : Int := intV (d34 code).2 [1, 3, 9, (d34 code).1.party.food, IntKind.i64.wrap ((d34 code).1.party.food + 1), 0]
noncomputable def stN (code : List Int) : Int := intV (d34 code).2 [1, 3, foodAt (d34 code).1.party.at_ (d34 code).1.depots, roomZ (d34 code).1.party, 0]
end Go.Abs
