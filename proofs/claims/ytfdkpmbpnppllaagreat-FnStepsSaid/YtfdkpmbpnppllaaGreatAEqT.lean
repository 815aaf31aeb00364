/- Expeditions are compared. -/
import Derived.Test.YtfdkpmbpnppllaaGreatATrekH
namespace Go.Abs
open Go.RowKit Go.Proofs
set_option linter.unusedVariables false
set_option linter.unusedSimpArgs false
set_option maxRecDepth 100000
set_option maxHeartbeats 4000000

/-! ### Structs of numbers are compared -/
theorem ne_agg {P : Program} {T : TypeId} {fs : Array Field} {xs ys : List A} {b : Bool} {K : Value → Prop} (ht : P.underlying T = some (.struct fs)) (h : eqCells P fs.toList xs ys = some b) (h1 : P.eqGuardType P.depth T = false) (h2 : P.stoodInHeld T = false) :
    onR (binS P .neq T (.ag xs) (.ag ys)) K = K (.bool (!b)) := by
  simp only [binS, ht, h, onR, h1, h2, and_self, true_and]
theorem ne_Depot {a0 b0 a1 b1 : Int} {K : Value → Prop} : onR (binS Tryz.prog .neq 114 (.ag [.v (.int .i64 a0), .v (.int .i64 a1)]) (.ag [.v (.int .i64 b0), .v (.int .i64 b1)])) K = K (.bool (!decide (a0 = b0 ∧ a1 = b1))) :=
  ne_agg Tryz.underlying114 (by simp [eqCells, Tryz.underlying3]; rfl) (by kernel_rfl) (by kernel_rfl)
attribute [go_sem] ne_Depot
theorem ne_Page {a0 b0 a1 b1 a2 b2 a3 b3 : Int} {K : Value → Prop} : onR (binS Tryz.prog .neq 66 (.ag [.v (.int .i64 a0), .v (.int .i64 a1), .v (.int .i64 a2), .v (.int .i64 a3)]) (.ag [.v (.int .i64 b0), .v (.int .i64 b1), .v (.int .i64 b2), .v (.int .i64 b3)])) K = K (.bool (!decide (a0 = b0 ∧ a1 = b1 ∧ a2 = b2 ∧ a3 = b3))) :=
  ne_agg Tryz.underlying66 (by simp [eqCells, Tryz.underlying3]; rfl) (by kernel_rfl) (by kernel_rfl)
attribute [go_sem] ne_Page
theorem ne_Rule {a0 b0 a1 b1 : Int} {K : Value → Prop} : onR (binS Tryz.prog .neq 28 (.ag [.v (.int .i64 a0), .v (.int .i64 a1)]) (.ag [.v (.int .i64 b0), .v (.int .i64 b1)])) K = K (.bool (!decide (a0 = b0 ∧ a1 = b1))) :=
  ne_agg Tryz.underlying28 (by simp [eqCells, Tryz.underlying3]; rfl) (by kernel_rfl) (by kernel_rfl)
attribute [go_sem] ne_Rule
theorem ne_Member {a0 b0 a1 b1 a2 b2 : Int} {a3 b3 : Bool} {K : Value → Prop} : onR (binS Tryz.prog .neq 155 (.ag [.v (.int .i64 a0), .v (.int .i64 a1), .v (.int .i64 a2), .v (.bool a3)]) (.ag [.v (.int .i64 b0), .v (.int .i64 b1), .v (.int .i64 b2), .v (.bool b3)])) K = K (.bool (!decide (a0 = b0 ∧ a1 = b1 ∧ a2 = b2 ∧ a3 = b3))) :=
  ne_agg Tryz.underlying155 (by simp [eqCells, Tryz.underlying3, Tryz.underlying4]; rfl) (by kernel_rfl) (by kernel_rfl)
attribute [go_sem] ne_Member
theorem impl_EqualInts (a b : List Int) (ha : a.length ≤ 1099511627776) : SC Tryz.prog 89 [.at (.im 1 (a.map intRow)), .at (.im 1 (b.map intRow))] [] (.at (.v (.bool (decide (a = b))))) [] := by
  refine SC.of_V mixed Tryz.func89 (by kernel_rfl) rfl Tryz.results89 _ Tryz.ntmps89 (by simp) ?_
  simp -implicitDefEqProofs only [go_sem]
  refine ⟨fun h => ?_, fun h => ?_⟩
  · simp; rintro rfl; exact h rfl
  have hl : a.length = b.length := by omega
  refine T.loopW mixed [0, 1, 12, 13] (fun mm vs es => ∃ (i : Nat), vs = [.at (.im 1 (a.map intRow)), .at (.im 1 (b.map intRow)), .at (.v (.int .i64 a.length)), .at (.v (.int .i64 i))] ∧ es = [] ∧ mm + i = a.length ∧ a.take i = b.take i) a.length ?_ ?_
  · simp -implicitDefEqProofs only [go_sem]; exact ⟨0, rfl, by omega, by simp⟩
  rintro n _ _ ⟨i, rfl, rfl, hn, ht⟩
  simp -implicitDefEqProofs only [go_sem]
  refine ⟨fun h => ?_, fun h => ?_⟩
  · refine ⟨some [], by decide +kernel, ?_⟩
    simp -implicitDefEqProofs only [go_sem]
    refine ⟨by omega, fun p hp => ⟨by omega, fun q hq => ⟨fun hpq => ?_, fun hpq => ?_⟩⟩⟩
    · have := ne_step hp hq hpq
      simp [this]
    · rw [wrap64 (by omega) (by omega)]
      exact ⟨n - 1, by omega, i + 1, rfl, by omega, eq_step ht hp hq hpq⟩
  · have := eq_end hl ht h
    simp [this]
theorem impl_EqualParties (a b : DParty) (ha : a.crew.length ≤ 1048576) (hp : a.past.length ≤ 1048576) : SC Tryz.prog 90 [.ag a.ats, .ag b.ats] [] (.at (.v (.bool (decide (a = b))))) [] := by
  refine SC.of_V mixed Tryz.func90 (by kernel_rfl) rfl Tryz.results90 _ Tryz.ntmps90 (by simp) ?_
  simp -implicitDefEqProofs only [go_sem]
  refine ⟨fun h1 => ⟨fun h2 => ⟨fun h3 => ⟨fun h4 => dec_f fun e => h4 (by rw [e]), fun h4 => ?_⟩, fun h3 => dec_f fun e => h3 (by rw [e])⟩, fun h2 => dec_f fun e => h2 (by rw [e])⟩, fun h1 => dec_f fun e => h1 (by rw [e])⟩
  have l3 : a.crew.length = b.crew.length := by omega
  have l4 : a.past.length = b.past.length := by omega
  refine T.loopW mixed [2, 3, 39, 40] (fun mm vs es => ∃ (i : Nat), vs = [.at (.bx 100 0 0), .at (.bx 101 0 0), .at (.v (.int .i64 a.crew.length)), .at (.v (.int .i64 i))] ∧ es = [.box 0 a.ats, .box 0 b.ats] ∧ mm + i = a.crew.length ∧ a.crew.take i = b.crew.take i) a.crew.length ?_ ?_
  · simp -implicitDefEqProofs only [go_sem]; exact ⟨0, rfl, by omega, by simp⟩
  rintro n _ _ ⟨i, rfl, rfl, hn, ht⟩
  simp -implicitDefEqProofs only [go_sem]
  refine ⟨fun h => ?_, fun h => ?_⟩
  · refine ⟨some [], by decide +kernel, ?_⟩
    simp -implicitDefEqProofs only [go_sem]
    refine ⟨by omega, fun p hp => ⟨by omega, fun q hq => ⟨fun hpq => ?_, fun hpq => ?_⟩⟩⟩
    · exact dec_f fun e => ne_step hp hq (fun e2 => hpq (by rw [e2]; exact ⟨rfl, rfl, rfl, rfl⟩)) (by rw [e])
    · rw [wrap64 (by omega) (by omega)]
      exact ⟨n - 1, by omega, i + 1, rfl, by omega, eq_step ht hp hq (by cases p; cases q; simp only at hpq; obtain ⟨rfl, rfl, rfl, rfl⟩ := hpq; rfl)⟩
  · have hc := eq_end l3 ht h
    refine T.loopW mixed [2, 3, 57, 58] (fun mm vs es => ∃ (i : Nat), vs = [.at (.bx 100 0 0), .at (.bx 101 0 0), .at (.v (.int .i64 a.past.length)), .at (.v (.int .i64 i))] ∧ es = [.box 0 a.ats, .box 0 b.ats] ∧ mm + i = a.past.length ∧ a.past.take i = b.past.take i) a.past.length ?_ ?_
    · simp -implicitDefEqProofs only [go_sem]; exact ⟨0, rfl, by omega, by simp⟩
    rintro q _ _ ⟨k, rfl, rfl, hq, ht2⟩
    simp -implicitDefEqProofs only [go_sem]
    refine ⟨fun h => ?_, fun h => ?_⟩
    · refine ⟨some [], by decide +kernel, ?_⟩
      simp -implicitDefEqProofs only [go_sem]
      refine ⟨by omega, fun p hp => ⟨by omega, fun v hv => ⟨fun hpq => ?_, fun hpq => ?_⟩⟩⟩
      · exact dec_f fun e => ne_step hp hv (fun e2 => by rw [e2] at hpq; simp at hpq) (by rw [e])
      · rw [wrap64 (by omega) (by omega)]
        exact ⟨q - 1, by omega, k + 1, rfl, by omega, eq_step ht2 hp hv (by simpa using hpq)⟩
    · have hd := eq_end l4 ht2 h
      refine dec_t ?_
      cases a; cases b
      simp only at h1 h2 hc hd
      subst h1; subst h2; subst hc; subst hd; rfl
theorem impl_EqualTreks (a b : DTrek) (ha : a.Fit) : SC Tryz.prog 23 [.ag a.ats, .ag b.ats] [] (.at (.v (.bool (decide (a = b))))) [] := by
  have hj := ha.journal
  have hdp := ha.depots
  refine SC.of_V mixed Tryz.func23 (by kernel_rfl) rfl Tryz.results23 _ Tryz.ntmps23 (by simp) ?_
  simp -implicitDefEqProofs only [go_sem]
  refine ⟨fun h1 => ⟨fun h2 => ?_, fun h2 => dec_f fun e => h2 (by rw [e])⟩, fun h1 => dec_f fun e => h1 (by rw [e])⟩
  refine callX [] (impl_EqualInts a.land.cells b.land.cells (Nat.le_trans ha.cells (by decide))) (by simp -implicitDefEqProofs only [go_sem]) ?_
  simp -implicitDefEqProofs only [go_sem]
  refine ⟨fun h3 => ⟨fun h4 => ⟨fun h5 => ?_, fun h5 => dec_f fun e => h5 (by rw [e]; exact ⟨rfl, rfl⟩)⟩, fun h4 => dec_f fun e => h4 (by rw [e])⟩, fun h3 => dec_f fun e => h3 (by rw [e])⟩
  refine callX [] (impl_EqualParties a.party b.party ha.crew ha.past) (by simp -implicitDefEqProofs only [go_sem]) ?_
  simp -implicitDefEqProofs only [go_sem]
  refine ⟨fun h6 => dec_f fun e => h6 (by rw [e]), fun h6 => ⟨fun h7 => ⟨fun h8 => ⟨fun h9 => ⟨fun h10 => ⟨fun h11 => dec_f fun e => h11 (by rw [e]), fun h11 => ?_⟩, fun h10 => dec_f fun e => h10 (by rw [e])⟩, fun h9 => dec_f fun e => h9 (by rw [e])⟩, fun h8 => dec_f fun e => h8 (by rw [e])⟩, fun h7 => dec_f fun e => h7 (by rw [e])⟩⟩
  have l3 : a.depots.length = b.depots.length := by omega
  have l4 : a.journal.length = b.journal.length := by omega
  refine T.loopW mixed [2, 3, 94, 95] (fun mm vs es => ∃ (i : Nat), vs = [.at (.bx 100 0 0), .at (.bx 101 0 0), .at (.v (.int .i64 a.depots.length)), .at (.v (.int .i64 i))] ∧ es = [.box 0 a.ats, .box 0 b.ats] ∧ mm + i = a.depots.length ∧ a.depots.take i = b.depots.take i) a.depots.length ?_ ?_
  · simp -implicitDefEqProofs only [go_sem]; exact ⟨0, rfl, by omega, by simp⟩
  rintro n _ _ ⟨i, rfl, rfl, hn, ht⟩
  simp -implicitDefEqProofs only [go_sem]
  refine ⟨fun h => ?_, fun h => ?_⟩
  · refine ⟨some [], by decide +kernel, ?_⟩
    simp -implicitDefEqProofs only [go_sem]
    refine ⟨by omega, fun p hp => ⟨by omega, fun q hq => ⟨fun hpq => ?_, fun hpq => ?_⟩⟩⟩
    · exact dec_f fun e => ne_step hp hq (fun e2 => hpq (by rw [e2]; exact ⟨rfl, rfl⟩)) (by rw [e])
    · rw [wrap64 (by omega) (by omega)]
      exact ⟨n - 1, by omega, i + 1, rfl, by omega, eq_step ht hp hq (by cases p; cases q; simp only at hpq; obtain ⟨rfl, rfl⟩ := hpq; rfl)⟩
  · have hc := eq_end l3 ht h
    refine T.loopW mixed [2, 3, 112, 113] (fun mm vs es => ∃ (i : Nat), vs = [.at (.bx 100 0 0), .at (.bx 101 0 0), .at (.v (.int .i64 a.journal.length)), .at (.v (.int .i64 i))] ∧ es = [.box 0 a.ats, .box 0 b.ats] ∧ mm + i = a.journal.length ∧ a.journal.take i = b.journal.take i) a.journal.length ?_ ?_
    · simp -implicitDefEqProofs only [go_sem]; exact ⟨0, rfl, by omega, by simp⟩
    rintro q _ _ ⟨k, rfl, rfl, hq, ht2⟩
    simp -implicitDefEqProofs only [go_sem]
    refine ⟨fun h => ?_, fun h => ?_⟩
    · refine ⟨some [], by decide +kernel, ?_⟩
      simp -implicitDefEqProofs only [go_sem]
      refine ⟨by omega, fun p hp => ⟨by omega, fun v hv => ⟨fun hpq => ?_, fun hpq => ?_⟩⟩⟩
      · exact dec_f fun e => ne_step hp hv (fun e2 => hpq (by rw [e2]; exact ⟨rfl, rfl, rfl, rfl⟩)) (by rw [e])
      · rw [wrap64 (by omega) (by omega)]
        exact ⟨q - 1, by omega, k + 1, rfl, by omega, eq_step ht2 hp hv (by cases p; cases v; simp only at hpq; obtain ⟨rfl, rfl, rfl, rfl⟩ := hpq; rfl)⟩
    · have hd := eq_end l4 ht2 h
      refine dec_t ?_
      obtain ⟨⟨w, hh, cs⟩, ba, ⟨mo, wi⟩, dp, pt, jo, dy, gi, ea⟩ := a
      obtain ⟨⟨w', hh', cs'⟩, ba', ⟨mo', wi'⟩, dp', pt', jo', dy', gi', ea'⟩ := b
      simp only at h1 h2 h3 h4 h5 h6 h7 h8 h9 hc hd
      obtain ⟨h5, h5'⟩ := h5
      subst h1; subst h2; subst h3; subst h4; subst h5; subst h5'; subst h6; subst h7; subst h8; subst h9; subst hc; subst hd
      rfl
end Go.Abs
