/- Journals and expeditions that are drawn. -/
import Derived.Test.YtmiajpljlkdhcaaGreatDoorADrawB
import Derived.Test.YtmiajpljlkdhcaaGreatDoorAWrite
namespace Go.Abs
open Go.RowKit Go.Proofs
set_option linter.unusedVariables false
set_option linter.unusedSimpArgs false
set_option maxRecDepth 100000
set_option maxHeartbeats 4000000

theorem updAt_mapx {β : Type} {l : List β} {row : β → List Value} {f : β → β} {i : Nat} {x : β} (g : List Value → List Value) (e : l[i]? = some x) (h : g (row x) = row (f x)) :
    (l.map row).set i (g ((l.map row).getD i [])) = (updAt l i f).map row := by
  rw [updAt, e, List.getD_eq_getElem?_getD, List.getElem?_map, e]
  simp only [Option.map_some, Option.getD_some]
  rw [h, List.map_set]
/-! ### A journal that may be wrong -/
noncomputable def pageF : Nat → DCur → Int → List DPage → List DPage × DCur
  | 0, s, _, l => (l, s)
  | n + 1, s, d, l => pageF n (belowS (belowS (belowS s 30) 60) 3) (d + 1 + belowV (belowS (belowS s 30) 60) 3) (writeL l d (belowV s 30) (belowV (belowS s 30) 60))
theorem pageF_ok : ∀ (n : Nat) (s : DCur) (d : Int) (l : List DPage), s.Ok → (0 ≤ d ∧ d + 4 * n ≤ 100) → (∀ p ∈ l, p.wf) → (pageF n s d l).2.Ok ∧ (∀ p ∈ (pageF n s d l).1, p.wf) ∧ (pageF n s d l).1.length ≤ l.length + n := by
  intro n
  induction n with
  | zero => intro s d l h _ hl; exact ⟨h, hl, Nat.le_refl _⟩
  | succ n ih =>
    intro s d l h hd hl
    have h1 := belowV_bnd s 30
    have h1b := h1.2.1 (by omega)
    have h2 := belowV_bnd (belowS s 30) 60
    have h2b := h2.2.1 (by omega)
    have h3 := belowV_bnd (belowS (belowS s 30) 60) 3
    have h3b := h3.2.1 (by omega)
    have := ih (belowS (belowS (belowS s 30) 60) 3) (d + 1 + belowV (belowS (belowS s 30) 60) 3) (writeL l d (belowV s 30) (belowV (belowS s 30) 60)) (belowS_ok (belowS_ok (belowS_ok h _) _) _) (by omega)
      (writeL_wf hl (by unfold I64; omega) (by unfold I64; omega) (by unfold I64; omega))
    rw [pageF]
    refine ⟨this.1, this.2.1, Nat.le_trans this.2.2 ?_⟩
    have := writeL_len (l := l) (day := d) (cell := belowV s 30) (food := belowV (belowS s 30) 60)
    omega
def p21a (s : DCur) : DCur := belowS s 3
def p21n (s : DCur) : Nat := (belowV (p21a s) 8).toNat
noncomputable def p21 (s : DCur) : List DPage × DCur := pageF (p21n s) (belowS (p21a s) 8) (belowV s 3) []
noncomputable def p21i (s : DCur) : Nat := (belowV (p21 s).2 (p21 s).1.length).toNat
noncomputable def p21b (s : DCur) : DCur := belowS (p21 s).2 (p21 s).1.length
noncomputable def p21K (s : DCur) : Int := belowV (p21b s) 10
noncomputable def p21S (s : DCur) : DCur := belowS (p21b s) 10
noncomputable def any21 (s : DCur) : List DPage × DCur :=
  if (p21 s).1.length = 0 then p21 s
  else if p21K s = 0 then (updAt (p21 s).1 (p21i s) (fun m => { m with day := intV (p21S s) [-1, 10000, 10001] }), intC (p21S s) [-1, 10000, 10001])
  else if p21K s = 1 then (updAt (p21 s).1 (p21i s) (fun m => { m with cell := intV (p21S s) [-1, 63, 64] }), intC (p21S s) [-1, 63, 64])
  else if p21K s = 2 then (updAt (p21 s).1 (p21i s) (fun m => { m with mark := IntKind.i64.wrap (m.mark + 1) }), p21S s)
  else ((p21 s).1, p21S s)
theorem p21_ok {s : DCur} (h : s.Ok) : (p21 s).2.Ok ∧ (∀ p ∈ (p21 s).1, p.wf) ∧ (p21 s).1.length ≤ 7 ∧ (p21S s).Ok ∧ ((p21n s : Nat) : Int) = belowV (p21a s) 8 ∧ ((p21i s : Nat) : Int) = belowV (p21 s).2 (p21 s).1.length ∧ ((p21 s).1.length ≠ 0 → p21i s < (p21 s).1.length) := by
  have h1 := belowV_bnd s 3
  have h1b := h1.2.1 (by omega)
  have h2 := belowV_bnd (p21a s) 8
  have h2b := h2.2.1 (by omega)
  have hn : ((p21n s : Nat) : Int) = belowV (p21a s) 8 := by unfold p21n; omega
  have h3 := pageF_ok (p21n s) (belowS (p21a s) 8) (belowV s 3) [] (belowS_ok (belowS_ok h _) _) (by omega) (by intro p hp; cases hp)
  have h4 := belowV_bnd (p21 s).2 (p21 s).1.length
  refine ⟨h3.1, h3.2.1, ?_, belowS_ok (belowS_ok h3.1 _) _, hn, by unfold p21i; omega, fun h0 => ?_⟩
  · have := h3.2.2; simp only [List.length_nil] at this; unfold p21; omega
  · have := h4.2.1 (by omega); unfold p21i; omega
theorem any21_ok {s : DCur} (h : s.Ok) : (any21 s).1.length ≤ 7 ∧ (∀ p ∈ (any21 s).1, p.wf) ∧ (any21 s).2.Ok := by
  have h1 := p21_ok h
  unfold any21
  split
  · exact ⟨h1.2.2.1, h1.2.1, h1.1⟩
  split
  · refine ⟨by simp only [updAt_len]; omega, updAt_all h1.2.1 fun m hm => ?_, intC_ok h1.2.2.2.1 [-1, 10000, 10001]⟩
    have hv := intV_mem (p21S s) (l := [-1, 10000, 10001]) (by simp)
    simp only [List.mem_cons, List.not_mem_nil, or_false] at hv
    have hw := h1.2.1 m hm
    exact ⟨by unfold I64; simp only []; omega, hw.2.1, hw.2.2.1, hw.2.2.2⟩
  split
  · refine ⟨by simp only [updAt_len]; omega, updAt_all h1.2.1 fun m hm => ?_, intC_ok h1.2.2.2.1 [-1, 63, 64]⟩
    have hv := intV_mem (p21S s) (l := [-1, 63, 64]) (by simp)
    simp only [List.mem_cons, List.not_mem_nil, or_false] at hv
    have hw := h1.2.1 m hm
    exact ⟨hw.1, by unfold I64; simp only []; omega, hw.2.2.1, hw.2.2.2⟩
  split
  · refine ⟨by simp only [updAt_len]; omega, updAt_all h1.2.1 fun m hm => ?_, h1.2.2.2.1⟩
    have hw := h1.2.1 m hm
    refine ⟨hw.1, hw.2.1, hw.2.2.1, ?_⟩
    unfold I64 IntKind.wrap
    simp [IntKind.bits, IntKind.signed]
    omega
  · exact ⟨h1.2.2.1, h1.2.1, h1.2.2.2.1⟩
theorem any21_z {s : DCur} (h : (p21 s).1.length = 0) : any21 s = p21 s := if_pos h
theorem any21_0 {s : DCur} (hz : ¬ (p21 s).1.length = 0) (h : p21K s = 0) : any21 s = (updAt (p21 s).1 (p21i s) (fun m => { m with day := intV (p21S s) [-1, 10000, 10001] }), intC (p21S s) [-1, 10000, 10001]) := by rw [any21, if_neg hz, if_pos h]
theorem any21_1 {s : DCur} (hz : ¬ (p21 s).1.length = 0) (h0 : ¬ p21K s = 0) (h : p21K s = 1) : any21 s = (updAt (p21 s).1 (p21i s) (fun m => { m with cell := intV (p21S s) [-1, 63, 64] }), intC (p21S s) [-1, 63, 64]) := by rw [any21, if_neg hz, if_neg h0, if_pos h]
theorem any21_2 {s : DCur} (hz : ¬ (p21 s).1.length = 0) (h0 : ¬ p21K s = 0) (h1 : ¬ p21K s = 1) (h : p21K s = 2) : any21 s = (updAt (p21 s).1 (p21i s) (fun m => { m with mark := IntKind.i64.wrap (m.mark + 1) }), p21S s) := by rw [any21, if_neg hz, if_neg h0, if_neg h1, if_pos h]
theorem any21_3 {s : DCur} (hz : ¬ (p21 s).1.length = 0) (h0 : ¬ p21K s = 0) (h1 : ¬ p21K s = 1) (h : ¬ p21K s = 2) : any21 s = ((p21 s).1, p21S s) := by rw [any21, if_neg hz, if_neg h0, if_neg h1, if_neg h]
theorem spec_l21Any (s : DCur) (h : s.Ok) : SC Tryz.prog 30 [.at (.bx 0 0 0)] [.box 0 s.ats] (.at (.fr 4 ((any21 s).1.map DPage.row))) [.box 0 (any21 s).2.ats] := by
  have h1 := p21_ok h
  refine SC.of_M mixed Tryz.func30 (by kernel_rfl) rfl Tryz.results30 _ Tryz.ntmps30 (by simp) (by simp) ?_
  simp -implicitDefEqProofs only [go_sem, invOf]
  refine callXNB [0] [] (spec_l1Below s 3 h) (by decide) (by simp -implicitDefEqProofs only [go_sem]) (by simp -implicitDefEqProofs only [go_sem]) ?_
  simp -implicitDefEqProofs only [go_sem, invOf]
  rw [show belowS s 3 = p21a s from rfl]
  have ha : (p21a s).Ok := belowS_ok h _
  refine callXNB [0] [] (spec_l1Below (p21a s) 8 ha) (by decide) (by simp -implicitDefEqProofs only [go_sem]) (by simp -implicitDefEqProofs only [go_sem]) ?_
  simp -implicitDefEqProofs only [go_sem, invOf]
  rw [← h1.2.2.2.2.1]
  have hP : pageF (p21n s) (belowS (p21a s) 8) (belowV s 3) [] = p21 s := rfl
  have hb1 := belowV_bnd s 3
  have hb1b := hb1.2.1 (by omega)
  have hb2 := belowV_bnd (p21a s) 8
  have hb2b := hb2.2.1 (by omega)
  refine T.loopN mixed (show 1 ≤ 100 by decide) [0, 3, 4, 5] (fun mm vs ex es => ∃ (y : DCur) (l : List DPage) (d : Int) (i : Nat), vs = [.at (.bx 0 0 0), .at (.ow 100 0 4 l.length), .at (.v (.int .i64 d)), .at (.v (.int .i64 (i : Nat)))] ∧ ex = [.box 0 y.ats] ∧ es = [.arr 0 4 (l.map DPage.row)] ∧ mm = i ∧ y.Ok ∧ pageF i y d l = p21 s ∧ l.length + i ≤ 7 ∧ (∀ p ∈ l, p.wf) ∧ (0 ≤ d ∧ d + 4 * i ≤ 100)) (p21n s) ?_ ?_
  · simp -implicitDefEqProofs only [go_sem, invOf]
    exact ⟨_, [], _, p21n s, ⟨rfl, rfl, rfl⟩, rfl, rfl, rfl, belowS_ok ha 8, hP, by simp; omega, by (intro p hp; cases hp), by omega⟩
  rintro q _ _ _ ⟨y, l, d, i, rfl, rfl, rfl, rfl, hy, hA, hl, hw, hd⟩ -
  simp -implicitDefEqProofs only [go_sem, invOf]
  refine ⟨fun hi => ?_, fun hi => ?_⟩
  · obtain ⟨k, rfl⟩ : ∃ k, q = k + 1 := ⟨q - 1, by omega⟩
    rw [pageF] at hA
    have o1 := belowS_ok hy 30
    have o2 := belowS_ok o1 60
    have v1 := belowV_bnd y 30
    have v1b := v1.2.1 (by omega)
    have v2 := belowV_bnd (belowS y 30) 60
    have v2b := v2.2.1 (by omega)
    have v3 := belowV_bnd (belowS (belowS y 30) 60) 3
    have v3b := v3.2.1 (by omega)
    refine callXNB [0] [] (spec_l1Below y 30 hy) (by decide) (by simp -implicitDefEqProofs only [go_sem]) (by simp -implicitDefEqProofs only [go_sem]) ?_
    simp -implicitDefEqProofs only [go_sem, invOf]
    refine callXNB [0] [] (spec_l1Below (belowS y 30) 60 o1) (by decide) (by simp -implicitDefEqProofs only [go_sem]) (by simp -implicitDefEqProofs only [go_sem]) ?_
    simp -implicitDefEqProofs only [go_sem, invOf]
    refine callX [100] (spec_WritePage l d (belowV y 30) (belowV (belowS y 30) 60) (by omega) hw (by unfold I64; omega) (by unfold I64; omega) (by unfold I64; omega)) (by simp -implicitDefEqProofs only [go_sem]) ?_
    simp -implicitDefEqProofs only [go_sem]
    refine callXNB [0] [] (spec_l1Below (belowS (belowS y 30) 60) 3 o2) (by decide) (by simp -implicitDefEqProofs only [go_sem]) (by simp -implicitDefEqProofs only [go_sem]) ?_
    simp -implicitDefEqProofs only [go_sem, invOf]
    have hlen := writeL_len (l := l) (day := d) (cell := belowV y 30) (food := belowV (belowS y 30) 60)
    rw [wrap64 (x := d + 1) (by omega) (by omega), wrap64 (x := d + 1 + belowV (belowS (belowS y 30) 60) 3) (by omega) (by omega), wrap64 (by omega) (by omega)]
    exact ⟨k, by omega, _, writeL l d (belowV y 30) (belowV (belowS y 30) 60), _, k, ⟨rfl, rfl, by omega⟩, rfl, rfl, rfl, belowS_ok o2 3, hA, by omega, writeL_wf hw (by unfold I64; omega) (by unfold I64; omega) (by unfold I64; omega), by omega⟩
  · obtain rfl : q = 0 := by omega
    rw [pageF] at hA
    rw [show l = (p21 s).1 by rw [← hA], show y = (p21 s).2 by rw [← hA]]
    refine ⟨fun h0 => ?_, fun h0 => ?_⟩
    · refine callXNB [0] [] (spec_l1Below (p21 s).2 (p21 s).1.length h1.1) (by decide) (by simp -implicitDefEqProofs only [go_sem]) (by simp -implicitDefEqProofs only [go_sem]) ?_
      simp -implicitDefEqProofs only [go_sem, invOf]
      rw [show belowS (p21 s).2 (p21 s).1.length = p21b s from rfl]
      refine callXNB [0] [] (spec_l1Below (p21b s) 10 (belowS_ok h1.1 _)) (by decide) (by simp -implicitDefEqProofs only [go_sem]) (by simp -implicitDefEqProofs only [go_sem]) ?_
      simp -implicitDefEqProofs only [go_sem, invOf]
      rw [show belowS (p21b s) 10 = p21S s from rfl]
      have hz : ¬ (p21 s).1.length = 0 := by omega
      have hi2 := h1.2.2.2.2.2.2 hz
      refine ⟨fun k0 => ?_, fun k0 => ⟨fun k1 => ?_, fun k1 => ⟨fun k2 => ?_, fun k2 => ?_⟩⟩⟩
      · rw [any21_0 hz k0]
        refine callXNB [0] [1720] (spec_l1Int (p21S s) [-1, 10000, 10001] h1.2.2.2.1 (by simp) (by simp)) (by decide) (by simp -implicitDefEqProofs only [go_sem]) (by simp -implicitDefEqProofs only [go_sem]) ?_
        simp -implicitDefEqProofs only [go_sem, invOf]
        exact ⟨by omega, hi2, updAt_len.symm, updAt_map (fun r => .int .i64 (intV (p21S s) [-1, 10000, 10001]) :: r.drop 1) (fun m => rfl) hi2⟩
      · rw [any21_1 hz k0 k1]
        refine callXNB [0] [1864] (spec_l1Int (p21S s) [-1, 63, 64] h1.2.2.2.1 (by simp) (by simp)) (by decide) (by simp -implicitDefEqProofs only [go_sem]) (by simp -implicitDefEqProofs only [go_sem]) ?_
        simp -implicitDefEqProofs only [go_sem, invOf]
        exact ⟨by omega, hi2, updAt_len.symm, updAt_map (fun r => r.take 1 ++ [.int .i64 (intV (p21S s) [-1, 63, 64])] ++ r.drop 2) (fun m => rfl) hi2⟩
      · rw [any21_2 hz k0 k1 k2]
        refine ⟨by omega, hi2, fun x hx => ⟨by omega, hi2, updAt_len.symm, rfl, ?_⟩⟩
        exact updAt_mapx (row := DPage.row) (f := fun m => { m with mark := IntKind.i64.wrap (m.mark + 1) }) (fun r => r.take 3 ++ [.int .i64 (IntKind.i64.wrap (x.mark + 1))] ++ r.drop 4) hx rfl
      · rw [any21_3 hz k0 k1 k2]
        exact ⟨rfl, rfl, rfl⟩
    · have hz : (p21 s).1.length = 0 := by omega
      rw [any21_z hz]
      exact ⟨rfl, rfl, rfl⟩
/-! ### An expedition at its begin -/
noncomputable def start33 (s : DCur) : DTrek × DCur :=
  (newTrekZ (landF s).1 0 (ruleV (landF s).2) (crewF 4 (ruleS (landF s).2) 1 []).1, (crewF 4 (ruleS (landF s).2) 1 []).2)
theorem crewF_ok : ∀ (k : Nat) (s : DCur) (i : Int) (l : List DMember), s.Ok → (crewF k s i l).2.Ok ∧ (crewF k s i l).1.length ≤ l.length + k := by
  intro k
  induction k with
  | zero => intro s i l h; exact ⟨h, Nat.le_refl _⟩
  | succ k ih =>
    intro s i l h
    rw [crewF]
    split
    · have := ih (belowS (belowS (belowS s 3) 20) 2) (i + 1) (l ++ [⟨i, 10 + belowV (belowS s 3) 20, 1 + belowV (belowS (belowS s 3) 20) 2, false⟩]) (belowS_ok (belowS_ok (belowS_ok h _) _) _)
      refine ⟨this.1, Nat.le_trans this.2 ?_⟩
      simp; omega
    · exact ⟨belowS_ok h 3, by simp⟩
theorem newTrekZ_party {x : DLand} {base : Int} {r : DRule} {crew : List DMember} : ((newTrekZ x base r crew).party.at_ = base ∨ (newTrekZ x base r crew).party.at_ = 0) ∧ (newTrekZ x base r crew).party.food = 0 ∧ (newTrekZ x base r crew).journal = [] ∧ (newTrekZ x base r crew).depots = [] ∧ (newTrekZ x base r crew).party.past = [] ∧ (newTrekZ x base r crew).day = 0 ∧ (newTrekZ x base r crew).given = 0 ∧ (newTrekZ x base r crew).eaten = 0 := by
  unfold newTrekZ
  split
  · exact ⟨.inl rfl, rfl, rfl, rfl, rfl, rfl, rfl, rfl⟩
  · exact ⟨.inr rfl, rfl, rfl, rfl, rfl, rfl, rfl, rfl⟩
/-- A small expedition. -/
structure Small (t : DTrek) : Prop where
  cells : t.land.cells.length ≤ 30
  depots : t.depots.length ≤ 1000
  crew : t.party.crew.length ≤ 10
  past : t.party.past.length ≤ 1000
  journal : t.journal.length ≤ 1000
  pages : ∀ p ∈ t.journal, p.wf
  at_ : I64 t.party.at_
  food : I64 t.party.food
theorem Small.fit {t : DTrek} (h : Small t) : t.Fit := ⟨Nat.le_trans h.cells (by decide), Nat.le_trans h.depots (by decide), Nat.le_trans h.crew (by decide), Nat.le_trans h.past (by decide), Nat.le_trans h.journal (by decide), h.pages⟩
theorem start33_ok {s : DCur} (h : s.Ok) : Small (start33 s).1 ∧ (start33 s).2.Ok := by
  have h1 := landF_ok h
  have h2 := h1.1.cnt
  have h3 := crewF_ok 4 (ruleS (landF s).2) 1 [] (ruleS_ok h1.2)
  have hp := newTrekZ_party (x := (landF s).1) (base := 0) (r := ruleV (landF s).2) (crew := (crewF 4 (ruleS (landF s).2) 1 []).1)
  refine ⟨⟨newTrekZ_cells h2.2, by rw [start33, hp.2.2.2.1]; simp, newTrekZ_crew (by have := h3.2; simp at this; omega), by rw [start33, hp.2.2.2.2.1]; simp, by rw [start33, hp.2.2.1]; simp, by (rw [start33, hp.2.2.1]; intro p hp; cases hp), ?_, by rw [start33, hp.2.1]; unfold I64; simp⟩, h3.1⟩
  show I64 (newTrekZ (landF s).1 0 (ruleV (landF s).2) (crewF 4 (ruleS (landF s).2) 1 []).1).party.at_
  rcases hp.1 with e | e <;> rw [e] <;> unfold I64 <;> simp
theorem spec_l33Start (s : DCur) (h : s.Ok) : SC Tryz.prog 44 [.at (.bx 0 0 0)] [.box 0 s.ats] (.ag (start33 s).1.frs) [.box 0 (start33 s).2.ats] := by
  have h1 := landF_ok h
  have h2 := h1.1.cnt
  have h3 := crewF_ok 4 (ruleS (landF s).2) 1 [] (ruleS_ok h1.2)
  refine SC.of_M mixed Tryz.func44 (by kernel_rfl) rfl Tryz.results44 _ Tryz.ntmps44 (by simp) (by simp) ?_
  simp -implicitDefEqProofs only [go_sem, invOf]
  refine callXNB [0] [] (spec_l4Draw s h) (by decide) (by simp -implicitDefEqProofs only [go_sem]) (by simp -implicitDefEqProofs only [go_sem]) ?_
  simp -implicitDefEqProofs only [go_sem, invOf]
  refine callXNB [0] [] (spec_l6Rule (landF s).2 h1.2) (by decide) (by simp -implicitDefEqProofs only [go_sem]) (by simp -implicitDefEqProofs only [go_sem]) ?_
  simp -implicitDefEqProofs only [go_sem, invOf]
  refine callXNB [0] [] (spec_l33Crew (ruleS (landF s).2) (ruleS_ok h1.2)) (by decide) (by simp -implicitDefEqProofs only [go_sem]) (by simp -implicitDefEqProofs only [go_sem]) ?_
  simp -implicitDefEqProofs only [go_sem, invOf]
  refine callX [1112, 1176] (spec_NewTrek (landF s).1 0 (ruleV (landF s).2) (crewF 4 (ruleS (landF s).2) 1 []).1 (by omega) (by have := h3.2; simp at this; omega)) (by simp -implicitDefEqProofs only [go_sem]) ?_
  simp -implicitDefEqProofs only [go_sem]
  rw [show newTrekZ (landF s).1 0 (ruleV (landF s).2) (crewF 4 (ruleS (landF s).2) 1 []).1 = (start33 s).1 from rfl, show (crewF 4 (ruleS (landF s).2) 1 []).2 = (start33 s).2 from rfl]
  simp -implicitDefEqProofs only [go_sem, invOf]
/-! ### An expedition that may be wrong -/
noncomputable def t33 (s : DCur) : DTrek := (start33 s).1
noncomputable def k33 (s : DCur) : Int := belowV (start33 s).2 14
noncomputable def s33 (s : DCur) : DCur := belowS (start33 s).2 14
noncomputable def any33 (s : DCur) : DTrek × DCur :=
  if k33 s = 0 then ({ t33 s with base := belowV (s33 s) 9 }, belowS (s33 s) 9)
  else if k33 s = 1 then ({ t33 s with rule := { (t33 s).rule with most := (t33 s).rule.window } }, s33 s)
  else if k33 s = 2 then ({ t33 s with depots := [⟨0, 3⟩] }, s33 s)
  else if k33 s = 3 then ({ t33 s with party := { (t33 s).party with food := 4 }, given := 4 }, s33 s)
  else if k33 s = 4 then ({ t33 s with day := intV (s33 s) [-1, 5000, 5001] }, intC (s33 s) [-1, 5000, 5001])
  else if k33 s = 5 then ({ t33 s with given := 3, eaten := 3 }, s33 s)
  else if k33 s = 6 then ({ t33 s with journal := (any21 (s33 s)).1 }, (any21 (s33 s)).2)
  else if k33 s = 7 then ({ t33 s with party := { (t33 s).party with past := [true, true, true] } }, s33 s)
  else if k33 s = 8 then ({ t33 s with given := 5 }, s33 s)
  else (t33 s, s33 s)
theorem any33_ok {s : DCur} (h : s.Ok) : Small (any33 s).1 ∧ (any33 s).2.Ok := by
  have h0 := start33_ok h
  have h1 : Small (t33 s) := h0.1
  have h2 : (s33 s).Ok := belowS_ok h0.2 14
  have h3 := any21_ok h2
  unfold any33
  split
  · exact ⟨⟨h1.cells, h1.depots, h1.crew, h1.past, h1.journal, h1.pages, h1.at_, h1.food⟩, belowS_ok h2 9⟩
  split
  · exact ⟨⟨h1.cells, h1.depots, h1.crew, h1.past, h1.journal, h1.pages, h1.at_, h1.food⟩, h2⟩
  split
  · exact ⟨⟨h1.cells, by simp, h1.crew, h1.past, h1.journal, h1.pages, h1.at_, h1.food⟩, h2⟩
  split
  · exact ⟨⟨h1.cells, h1.depots, h1.crew, h1.past, h1.journal, h1.pages, h1.at_, by unfold I64; simp⟩, h2⟩
  split
  · exact ⟨⟨h1.cells, h1.depots, h1.crew, h1.past, h1.journal, h1.pages, h1.at_, h1.food⟩, intC_ok h2 [-1, 5000, 5001]⟩
  split
  · exact ⟨⟨h1.cells, h1.depots, h1.crew, h1.past, h1.journal, h1.pages, h1.at_, h1.food⟩, h2⟩
  split
  · exact ⟨⟨h1.cells, h1.depots, h1.crew, h1.past, Nat.le_trans h3.1 (by decide), h3.2.1, h1.at_, h1.food⟩, h3.2.2⟩
  split
  · exact ⟨⟨h1.cells, h1.depots, h1.crew, by simp, h1.journal, h1.pages, h1.at_, h1.food⟩, h2⟩
  split
  · exact ⟨⟨h1.cells, h1.depots, h1.crew, h1.past, h1.journal, h1.pages, h1.at_, h1.food⟩, h2⟩
  · exact ⟨h1, h2⟩
section
variable {s : DCur}
theorem any33_0 (h : k33 s = 0) : any33 s = ({ t33 s with base := belowV (s33 s) 9 }, belowS (s33 s) 9) := if_pos h
theorem any33_1 (h0 : ¬ k33 s = 0) (h : k33 s = 1) : any33 s = ({ t33 s with rule := { (t33 s).rule with most := (t33 s).rule.window } }, s33 s) := by rw [any33, if_neg h0, if_pos h]
theorem any33_2 (h0 : ¬ k33 s = 0) (h1 : ¬ k33 s = 1) (h : k33 s = 2) : any33 s = ({ t33 s with depots := [⟨0, 3⟩] }, s33 s) := by rw [any33, if_neg h0, if_neg h1, if_pos h]
theorem any33_3 (h0 : ¬ k33 s = 0) (h1 : ¬ k33 s = 1) (h2 : ¬ k33 s = 2) (h : k33 s = 3) : any33 s = ({ t33 s with party := { (t33 s).party with food := 4 }, given := 4 }, s33 s) := by rw [any33, if_neg h0, if_neg h1, if_neg h2, if_pos h]
theorem any33_4 (h0 : ¬ k33 s = 0) (h1 : ¬ k33 s = 1) (h2 : ¬ k33 s = 2) (h3 : ¬ k33 s = 3) (h : k33 s = 4) : any33 s = ({ t33 s with day := intV (s33 s) [-1, 5000, 5001] }, intC (s33 s) [-1, 5000, 5001]) := by rw [any33, if_neg h0, if_neg h1, if_neg h2, if_neg h3, if_pos h]
theorem any33_5 (h0 : ¬ k33 s = 0) (h1 : ¬ k33 s = 1) (h2 : ¬ k33 s = 2) (h3 : ¬ k33 s = 3) (h4 : ¬ k33 s = 4) (h : k33 s = 5) : any33 s = ({ t33 s with given := 3, eaten := 3 }, s33 s) := by rw [any33, if_neg h0, if_neg h1, if_neg h2, if_neg h3, if_neg h4, if_pos h]
theorem any33_6 (h0 : ¬ k33 s = 0) (h1 : ¬ k33 s = 1) (h2 : ¬ k33 s = 2) (h3 : ¬ k33 s = 3) (h4 : ¬ k33 s = 4) (h5 : ¬ k33 s = 5) (h : k33 s = 6) : any33 s = ({ t33 s with journal := (any21 (s33 s)).1 }, (any21 (s33 s)).2) := by rw [any33, if_neg h0, if_neg h1, if_neg h2, if_neg h3, if_neg h4, if_neg h5, if_pos h]
theorem any33_7 (h0 : ¬ k33 s = 0) (h1 : ¬ k33 s = 1) (h2 : ¬ k33 s = 2) (h3 : ¬ k33 s = 3) (h4 : ¬ k33 s = 4) (h5 : ¬ k33 s = 5) (h6 : ¬ k33 s = 6) (h : k33 s = 7) : any33 s = ({ t33 s with party := { (t33 s).party with past := [true, true, true] } }, s33 s) := by rw [any33, if_neg h0, if_neg h1, if_neg h2, if_neg h3, if_neg h4, if_neg h5, if_neg h6, if_pos h]
theorem any33_8 (h0 : ¬ k33 s = 0) (h1 : ¬ k33 s = 1) (h2 : ¬ k33 s = 2) (h3 : ¬ k33 s = 3) (h4 : ¬ k33 s = 4) (h5 : ¬ k33 s = 5) (h6 : ¬ k33 s = 6) (h7 : ¬ k33 s = 7) (h : k33 s = 8) : any33 s = ({ t33 s with given := 5 }, s33 s) := by rw [any33, if_neg h0, if_neg h1, if_neg h2, if_neg h3, if_neg h4, if_neg h5, if_neg h6, if_neg h7, if_pos h]
theorem any33_9 (h0 : ¬ k33 s = 0) (h1 : ¬ k33 s = 1) (h2 : ¬ k33 s = 2) (h3 : ¬ k33 s = 3) (h4 : ¬ k33 s = 4) (h5 : ¬ k33 s = 5) (h6 : ¬ k33 s = 6) (h7 : ¬ k33 s = 7) (h : ¬ k33 s = 8) : any33 s = (t33 s, s33 s) := by rw [any33, if_neg h0, if_neg h1, if_neg h2, if_neg h3, if_neg h4, if_neg h5, if_neg h6, if_neg h7, if_neg h]
end
theorem spec_l33Any (s : DCur) (h : s.Ok) : SC Tryz.prog 31 [.at (.bx 0 0 0)] [.box 0 s.ats] (.ag (any33 s).1.frs) [.box 0 (any33 s).2.ats] := by
  have h0 := start33_ok h
  have h2 : (s33 s).Ok := belowS_ok h0.2 14
  refine SC.of_M mixed Tryz.func31 (by kernel_rfl) rfl Tryz.results31 _ Tryz.ntmps31 (by simp) (by simp) ?_
  simp -implicitDefEqProofs only [go_sem, invOf]
  refine callXNB [0] [] (spec_l33Start s h) (by decide) (by simp -implicitDefEqProofs only [go_sem]) (by simp -implicitDefEqProofs only [go_sem]) ?_
  simp -implicitDefEqProofs only [go_sem, invOf]
  refine callXNB [0] [] (spec_l1Below (start33 s).2 14 h0.2) (by decide) (by simp -implicitDefEqProofs only [go_sem]) (by simp -implicitDefEqProofs only [go_sem]) ?_
  simp -implicitDefEqProofs (maxSteps := 10000000) only [go_sem, invOf]
  rw [show belowS (start33 s).2 14 = s33 s from rfl, show (start33 s).1 = t33 s from rfl]
  refine ⟨fun k0 => ?_, fun k0 => ⟨fun k1 => ?_, fun k1 => ⟨fun k2 => ?_, fun k2 => ⟨fun k3 => ?_, fun k3 => ⟨fun k4 => ?_, fun k4 => ⟨fun k5 => ?_, fun k5 => ⟨fun k6 => ?_, fun k6 => ⟨fun k7 => ?_, fun k7 => ⟨fun k8 => ?_, fun k8 => ?_⟩⟩⟩⟩⟩⟩⟩⟩⟩
  · rw [any33_0 k0]
    refine callXNB [0] [] (spec_l1Below (s33 s) 9 h2) (by decide) (by simp -implicitDefEqProofs only [go_sem]) (by simp -implicitDefEqProofs only [go_sem]) ?_
    simp -implicitDefEqProofs only [go_sem, invOf]
  · rw [any33_1 k0 k1]
    simp -implicitDefEqProofs only [go_sem, invOf]
  · rw [any33_2 k0 k1 k2]
    simp -implicitDefEqProofs only [go_sem, invOf]
  · rw [any33_3 k0 k1 k2 k3]
    simp -implicitDefEqProofs only [go_sem, invOf]
  · rw [any33_4 k0 k1 k2 k3 k4]
    refine callXNB [0] [1528] (spec_l1Int (s33 s) [-1, 5000, 5001] h2 (by simp) (by simp)) (by decide) (by simp -implicitDefEqProofs only [go_sem]) (by simp -implicitDefEqProofs only [go_sem]) ?_
    simp -implicitDefEqProofs only [go_sem, invOf]
  · rw [any33_5 k0 k1 k2 k3 k4 k5]
    simp -implicitDefEqProofs only [go_sem, invOf]
  · rw [any33_6 k0 k1 k2 k3 k4 k5 k6]
    refine callXNB [0] [] (spec_l21Any (s33 s) h2) (by decide) (by simp -implicitDefEqProofs only [go_sem]) (by simp -implicitDefEqProofs only [go_sem]) ?_
    simp -implicitDefEqProofs only [go_sem, invOf]
  · rw [any33_7 k0 k1 k2 k3 k4 k5 k6 k7]
    simp -implicitDefEqProofs only [go_sem, invOf]
  · rw [any33_8 k0 k1 k2 k3 k4 k5 k6 k7 k8]
    simp -implicitDefEqProofs only [go_sem, invOf]
  · rw [any33_9 k0 k1 k2 k3 k4 k5 k6 k7 k8]
    simp -implicitDefEqProofs only [go_sem, invOf]
end Go.Abs
