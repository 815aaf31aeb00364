/- Events one after another; the way home; faults. -/
import Derived.Test.YtmiajpljlkdhcaaGreatDoorAEvt
namespace Go.Abs
open Go.RowKit Go.Proofs
set_option linter.unusedVariables false
set_option linter.unusedSimpArgs false
set_option maxRecDepth 100000
set_option maxHeartbeats 4000000

noncomputable def runT (t : DTrek) (l : List DEvent) (i : Nat) : DTrek := (l.take i).foldl applyZ t
noncomputable def runZ (t : DTrek) (l : List DEvent) : DTrek := l.foldl applyZ t
theorem runT_0 {t : DTrek} {l : List DEvent} : runT t l 0 = t := rfl
theorem runT_S {t : DTrek} {l : List DEvent} {i : Nat} {e : DEvent} (h : l[i]? = some e) : runT t l (i + 1) = applyZ (runT t l i) e := by
  rw [runT, List.take_add_one, h, Option.toList_some, List.foldl_append]; rfl
theorem runT_end {t : DTrek} {l : List DEvent} {i : Nat} (h : ¬ (i : Int) < l.length) : runT t l i = runZ t l := by
  rw [runT, List.take_of_length_le (by omega)]; rfl
theorem run_sane : ∀ (l : List DEvent) (t : DTrek), t.Sane → (∀ e ∈ l, I64 e.n) → (runZ t l).Sane := by
  intro l
  induction l with
  | nil => intro t h _; exact h
  | cons e l ih => intro t h he; exact ih _ (applyZ_sane h (he e (by simp))) fun y hy => he y (by simp [hy])
/-- A trek in a box: its arrays go by five keys, one after another. -/
def DTrek.owk (p : DTrek) (k : Nat) : List A := [.v (.int .i64 p.land.w), .v (.int .i64 p.land.h), .ow k 0 1 p.land.cells.length, .v (.int .i64 p.base), .v (.int .i64 p.rule.most), .v (.int .i64 p.rule.window), .ow (k + 1) 0 2 p.depots.length, .v (.int .i64 p.party.at_), .v (.int .i64 p.party.food), .ow (k + 2) 0 4 p.party.crew.length, .ow (k + 3) 0 1 p.party.past.length, .ow (k + 4) 0 4 p.journal.length, .v (.int .i64 p.day), .v (.int .i64 p.given), .v (.int .i64 p.eaten)]
attribute [go_sem] DTrek.owk
def zeroT : List A := [.v (.int .i64 0), .v (.int .i64 0), .nil, .v (.int .i64 0), .v (.int .i64 0), .v (.int .i64 0), .nil, .v (.int .i64 0), .v (.int .i64 0), .nil, .nil, .nil, .v (.int .i64 0), .v (.int .i64 0), .v (.int .i64 0)]
attribute [go_sem] zeroT
theorem spec_RunEvents (t : DTrek) (l : List DEvent) (h : t.Sane) (hl : l.length ≤ 1048576) (he : ∀ e ∈ l, I64 e.n) : SC Tryz.prog 28 [.ag t.ats, .at (.im 3 (l.map DEvent.row))] [] (.ag (runZ t l).frs) [] := by
  refine SC.of_W mixed Tryz.func28 (by kernel_rfl) rfl Tryz.results28 _ Tryz.ntmps28 (by simp) ?_
  simp -implicitDefEqProofs only [go_sem]
  refine callX [] (spec_l33Copy t h.fit) (by simp -implicitDefEqProofs only [go_sem]) ?_
  simp -implicitDefEqProofs only [go_sem]
  refine T.loopW mixed [1, 4, 5, 6] (fun mm vs es => ∃ (x : DTrek) (i : Nat), vs = [.at (.im 3 (l.map DEvent.row)), .at (.bx 100 0 0), .at (.bx 101 0 0), .at (.v (.int .i64 (i : Nat)))] ∧ es = [.box 0 zeroT, .box 0 (x.owk 102), .arr 0 1 (x.land.cells.map intRow), .arr 0 2 (x.depots.map DDepot.row), .arr 0 4 (x.party.crew.map DMember.row), .arr 0 1 (x.party.past.map boolRow), .arr 0 4 (x.journal.map DPage.row)] ∧ mm + i = l.length ∧ x.Sane ∧ runT t l i = x) l.length ?_ ?_
  · simp -implicitDefEqProofs only [go_sem]
    exact ⟨t, 0, rfl, ⟨rfl, rfl, rfl, rfl, rfl, rfl⟩, by omega, h, rfl⟩
  rintro q _ _ ⟨x, i, rfl, rfl, hn, hx, hr⟩
  simp -implicitDefEqProofs only [go_sem]
  refine ⟨fun h1 => ?_, fun h1 => ?_⟩
  · refine ⟨some [], by decide +kernel, ?_⟩
    simp -implicitDefEqProofs only [go_sem]
    refine ⟨by omega, fun e hx2 => ?_⟩
    refine callXQ [102, 103, 104, 105, 106] (spec_ApplyEvent x e hx (he e (mem_get hx2))) (by simp -implicitDefEqProofs only [go_sem]) ?_
    simp -implicitDefEqProofs only [go_sem]
    rw [wrap64 (by omega) (by omega)]
    exact ⟨q - 1, by omega, applyZ x e, i + 1, rfl, ⟨rfl, rfl, rfl, rfl, rfl, rfl⟩, by omega, applyZ_sane hx (he e (mem_get hx2)), by rw [runT_S hx2, hr]⟩
  · rw [show runZ t l = x by rw [← runT_end h1, hr]]
    simp only [and_self]
/-! ### The way home, and faults -/
theorem homeEvZ_n {t : DTrek} : ∀ e ∈ homeEvZ t, I64 e.n := by
  unfold homeEvZ
  split
  · intro e h
    obtain ⟨b, _, rfl⟩ := List.mem_map.1 h
    unfold I64; simp [homeEv]
  · intro e h; cases h
def comesHomeP (t : DTrek) : Prop := (runZ t (homeEvZ t)).party.at_ = (runZ t (homeEvZ t)).base
noncomputable instance (t : DTrek) : Decidable (comesHomeP t) := Classical.propDecidable _
noncomputable def faultZ (t : DTrek) : ByteArray :=
  if ¬ lostP t then ⟨#[102, 111, 111, 100]⟩ else if ¬ KeepsP t.rule t.party.past then ⟨#[114, 117, 108, 101]⟩ else if ¬ writtenP t then ⟨#[106, 111, 117, 114, 110, 97, 108]⟩ else if ¬ comesHomeP t then ⟨#[104, 111, 109, 101]⟩ else if ¬ trekP t then ⟨#[116, 114, 101, 107]⟩ else ⟨#[]⟩
end Go.Abs
