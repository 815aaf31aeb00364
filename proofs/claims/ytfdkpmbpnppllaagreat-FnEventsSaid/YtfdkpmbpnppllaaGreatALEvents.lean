/- The law FnEvents: its walk. -/
import Derived.Test.YtfdkpmbpnppllaaGreatATrekH
import Derived.Test.YtfdkpmbpnppllaaGreatAJournal
import Derived.Test.YtfdkpmbpnppllaaGreatACur
import Derived.Test.YtfdkpmbpnppllaaGreatADrawF
import Derived.Test.YtfdkpmbpnppllaaGreatAEvtZ
namespace Go.Abs
open Go.RowKit Go.Proofs
set_option linter.unusedVariables false
set_option linter.unusedSimpArgs false
set_option maxRecDepth 100000
set_option maxHeartbeats 4000000

/-! ### Structs of numbers are compared -/
theorem ne_agg {P : Program} {T : TypeId} {fs : Array Field} {xs ys : List A} {b : Bool} {K : Value → Prop} (ht : P.underlying T = some (.struct fs)) (h : eqCells P fs.toList xs ys = some b) (h1 : P.eqGuardType P.depth T = false) (h2 : P.stoodInHeld T = false) :
    onR (binS P .neq T (.ag xs) (.ag ys)) K = K (.bool (!b)) := by
  simp only [binS, ht, h, onR, h1, h2, and_self, true_and]
theorem ne_Depot {a0 b0 a1 b1 : Int} {K : Value → Prop} : onR (binS Tryz.prog .neq 114 (.ag [.v (.int .i64 a0), .v (.int .i64 a1)]) (.ag [.v (.int .i64 b0), .v (.int .i64 b1)])) K = K (.bool (!decide (a0 = b0 ∧ a1 = b1))) :=
  ne_agg Tryz.underlying114 (by simp [eqCells, Tryz.underlying3]; rfl) (by kernel_rfl) (by kernel_rfl)
attribute [go_sem] ne_Depot
theorem ne_Page {a0 b0 a1 b1 a2 b2 a3 b3 : Int} {K : Value → Prop} : onR (binS Tryz.prog .neq 66 (.ag [.v (.int .i64 a0), .v (.int .i64 a1), .v (.int .i64 a2), .v (.int .i64 a3)]) (.ag [.v (.int .i64 b0), .v (.int .i64 b1), .v (.int .i64 b2), .v (.int .i64 b3)])) K = K (.bool (!decide (a0 = b0 ∧ a1 = b1 ∧ a2 = b2 ∧ a3 = b3))) :=
  ne_agg Tryz.underlying66 (by simp [eqCells, Tryz.underlying3]; rfl) (by kernel_rfl) (by kernel_rfl)
attribute [go_sem] ne_Page
theorem ne_Rule {a0 b0 a1 b1 : Int} {K : Value → Prop} : onR (binS Tryz.prog .neq 28 (.ag [.v (.int .i64 a0), .v (.int .i64 a1)]) (.ag [.v (.int .i64 b0), .v (.int .i64 b1)])) K = K (.bool (!decide (a0 = b0 ∧ a1 = b1))) :=
  ne_agg Tryz.underlying28 (by simp [eqCells, Tryz.underlying3]; rfl) (by kernel_rfl) (by kernel_rfl)
attribute [go_sem] ne_Rule
theorem ne_Member {a0 b0 a1 b1 a2 b2 : Int} {a3 b3 : Bool} {K : Value → Prop} : onR (binS Tryz.prog .neq 155 (.ag [.v (.int .i64 a0), .v (.int .i64 a1), .v (.int .i64 a2), .v (.bool a3)]) (.ag [.v (.int .i64 b0), .v (.int .i64 b1), .v (.int .i64 b2), .v (.bool b3)])) K = K (.bool (!decide (a0 = b0 ∧ a1 = b1 ∧ a2 = b2 ∧ a3 = b3))) :=
  ne_agg Tryz.underlying155 (by simp [eqCells, Tryz.underlying3, Tryz.underlying4]; rfl) (by kernel_rfl) (by kernel_rfl)
attribute [go_sem] ne_Member
theorem impl_EqualInts (a b : List Int) (ha : a.length ≤ 1099511627776) : SC Tryz.prog 89 [.at (.im 1 (a.map intRow)), .at (.im 1 (b.map intRow))] [] (.at (.v (.bool (decide (a = b))))) [] := by
  refine SC.of_V mixed Tryz.func89 (by kernel_rfl) rfl Tryz.results89 _ Tryz.ntmps89 (by simp) ?_
  simp -implicitDefEqProofs only [go_sem]
  refine ⟨fun h => ?_, fun h => ?_⟩
  · simp; rintro rfl; exact h rfl
  have hl : a.length = b.length := by omega
  refine T.loopW mixed [0, 1, 12, 13] (fun mm vs es => ∃ (i : Nat), vs = [.at (.im 1 (a.map intRow)), .at (.im 1 (b.map intRow)), .at (.v (.int .i64 a.length)), .at (.v (.int .i64 i))] ∧ es = [] ∧ mm + i = a.length ∧ a.take i = b.take i) a.length ?_ ?_
  · simp -implicitDefEqProofs only [go_sem]; exact ⟨0, rfl, by omega, by simp⟩
  rintro n _ _ ⟨i, rfl, rfl, hn, ht⟩
  simp -implicitDefEqProofs only [go_sem]
  refine ⟨fun h => ?_, fun h => ?_⟩
  · refine ⟨some [], by decide +kernel, ?_⟩
    simp -implicitDefEqProofs only [go_sem]
    refine ⟨by omega, fun p hp => ⟨by omega, fun q hq => ⟨fun hpq => ?_, fun hpq => ?_⟩⟩⟩
    · have := ne_step hp hq hpq
      simp [this]
    · rw [wrap64 (by omega) (by omega)]
      exact ⟨n - 1, by omega, i + 1, rfl, by omega, eq_step ht hp hq hpq⟩
  · have := eq_end hl ht h
    simp [this]
theorem impl_EqualParties (a b : DParty) (ha : a.crew.length ≤ 1048576) (hp : a.past.length ≤ 1048576) : SC Tryz.prog 90 [.ag a.ats, .ag b.ats] [] (.at (.v (.bool (decide (a = b))))) [] := by
  refine SC.of_V mixed Tryz.func90 (by kernel_rfl) rfl Tryz.results90 _ Tryz.ntmps90 (by simp) ?_
  simp -implicitDefEqProofs only [go_sem]
  refine ⟨fun h1 => ⟨fun h2 => ⟨fun h3 => ⟨fun h4 => dec_f fun e => h4 (by rw [e]), fun h4 => ?_⟩, fun h3 => dec_f fun e => h3 (by rw [e])⟩, fun h2 => dec_f fun e => h2 (by rw [e])⟩, fun h1 => dec_f fun e => h1 (by rw [e])⟩
  have l3 : a.crew.length = b.crew.length := by omega
  have l4 : a.past.length = b.past.length := by omega
  refine T.loopW mixed [2, 3, 39, 40] (fun mm vs es => ∃ (i : Nat), vs = [.at (.bx 100 0 0), .at (.bx 101 0 0), .at (.v (.int .i64 a.crew.length)), .at (.v (.int .i64 i))] ∧ es = [.box 0 a.ats, .box 0 b.ats] ∧ mm + i = a.crew.length ∧ a.crew.take i = b.crew.take i) a.crew.length ?_ ?_
  · simp -implicitDefEqProofs only [go_sem]; exact ⟨0, rfl, by omega, by simp⟩
  rintro n _ _ ⟨i, rfl, rfl, hn, ht⟩
  simp -implicitDefEqProofs only [go_sem]
  refine ⟨fun h => ?_, fun h => ?_⟩
  · refine ⟨some [], by decide +kernel, ?_⟩
    simp -implicitDefEqProofs only [go_sem]
    refine ⟨by omega, fun p hp => ⟨by omega, fun q hq => ⟨fun hpq => ?_, fun hpq => ?_⟩⟩⟩
    · exact dec_f fun e => ne_step hp hq (fun e2 => hpq (by rw [e2]; exact ⟨rfl, rfl, rfl, rfl⟩)) (by rw [e])
    · rw [wrap64 (by omega) (by omega)]
      exact ⟨n - 1, by omega, i + 1, rfl, by omega, eq_step ht hp hq (by cases p; cases q; simp only at hpq; obtain ⟨rfl, rfl, rfl, rfl⟩ := hpq; rfl)⟩
  · have hc := eq_end l3 ht h
    refine T.loopW mixed [2, 3, 57, 58] (fun mm vs es => ∃ (i : Nat), vs = [.at (.bx 100 0 0), .at (.bx 101 0 0), .at (.v (.int .i64 a.past.length)), .at (.v (.int .i64 i))] ∧ es = [.box 0 a.ats, .box 0 b.ats] ∧ mm + i = a.past.length ∧ a.past.take i = b.past.take i) a.past.length ?_ ?_
    · simp -implicitDefEqProofs only [go_sem]; exact ⟨0, rfl, by omega, by simp⟩
    rintro q _ _ ⟨k, rfl, rfl, hq, ht2⟩
    simp -implicitDefEqProofs only [go_sem]
    refine ⟨fun h => ?_, fun h => ?_⟩
    · refine ⟨some [], by decide +kernel, ?_⟩
      simp -implicitDefEqProofs only [go_sem]
      refine ⟨by omega, fun p hp => ⟨by omega, fun v hv => ⟨fun hpq => ?_, fun hpq => ?_⟩⟩⟩
      · exact dec_f fun e => ne_step hp hv (fun e2 => by rw [e2] at hpq; simp at hpq) (by rw [e])
      · rw [wrap64 (by omega) (by omega)]
        exact ⟨q - 1, by omega, k + 1, rfl, by omega, eq_step ht2 hp hv (by simpa using hpq)⟩
    · have hd := eq_end l4 ht2 h
      refine dec_t ?_
      cases a; cases b
      simp only at h1 h2 hc hd
      subst h1; subst h2; subst hc; subst hd; rfl
theorem impl_EqualTreks (a b : DTrek) (ha : a.Fit) : SC Tryz.prog 23 [.ag a.ats, .ag b.ats] [] (.at (.v (.bool (decide (a = b))))) [] := by
  have hj := ha.journal
  have hdp := ha.depots
  refine SC.of_V mixed Tryz.func23 (by kernel_rfl) rfl Tryz.results23 _ Tryz.ntmps23 (by simp) ?_
  simp -implicitDefEqProofs only [go_sem]
  refine ⟨fun h1 => ⟨fun h2 => ?_, fun h2 => dec_f fun e => h2 (by rw [e])⟩, fun h1 => dec_f fun e => h1 (by rw [e])⟩
  refine callX [] (impl_EqualInts a.land.cells b.land.cells (Nat.le_trans ha.cells (by decide))) (by simp -implicitDefEqProofs only [go_sem]) ?_
  simp -implicitDefEqProofs only [go_sem]
  refine ⟨fun h3 => ⟨fun h4 => ⟨fun h5 => ?_, fun h5 => dec_f fun e => h5 (by rw [e]; exact ⟨rfl, rfl⟩)⟩, fun h4 => dec_f fun e => h4 (by rw [e])⟩, fun h3 => dec_f fun e => h3 (by rw [e])⟩
  refine callX [] (impl_EqualParties a.party b.party ha.crew ha.past) (by simp -implicitDefEqProofs only [go_sem]) ?_
  simp -implicitDefEqProofs only [go_sem]
  refine ⟨fun h6 => dec_f fun e => h6 (by rw [e]), fun h6 => ⟨fun h7 => ⟨fun h8 => ⟨fun h9 => ⟨fun h10 => ⟨fun h11 => dec_f fun e => h11 (by rw [e]), fun h11 => ?_⟩, fun h10 => dec_f fun e => h10 (by rw [e])⟩, fun h9 => dec_f fun e => h9 (by rw [e])⟩, fun h8 => dec_f fun e => h8 (by rw [e])⟩, fun h7 => dec_f fun e => h7 (by rw [e])⟩⟩
  have l3 : a.depots.length = b.depots.length := by omega
  have l4 : a.journal.length = b.journal.length := by omega
  refine T.loopW mixed [2, 3, 94, 95] (fun mm vs es => ∃ (i : Nat), vs = [.at (.bx 100 0 0), .at (.bx 101 0 0), .at (.v (.int .i64 a.depots.length)), .at (.v (.int .i64 i))] ∧ es = [.box 0 a.ats, .box 0 b.ats] ∧ mm + i = a.depots.length ∧ a.depots.take i = b.depots.take i) a.depots.length ?_ ?_
  · simp -implicitDefEqProofs only [go_sem]; exact ⟨0, rfl, by omega, by simp⟩
  rintro n _ _ ⟨i, rfl, rfl, hn, ht⟩
  simp -implicitDefEqProofs only [go_sem]
  refine ⟨fun h => ?_, fun h => ?_⟩
  · refine ⟨some [], by decide +kernel, ?_⟩
    simp -implicitDefEqProofs only [go_sem]
    refine ⟨by omega, fun p hp => ⟨by omega, fun q hq => ⟨fun hpq => ?_, fun hpq => ?_⟩⟩⟩
    · exact dec_f fun e => ne_step hp hq (fun e2 => hpq (by rw [e2]; exact ⟨rfl, rfl⟩)) (by rw [e])
    · rw [wrap64 (by omega) (by omega)]
      exact ⟨n - 1, by omega, i + 1, rfl, by omega, eq_step ht hp hq (by cases p; cases q; simp only at hpq; obtain ⟨rfl, rfl⟩ := hpq; rfl)⟩
  · have hc := eq_end l3 ht h
    refine T.loopW mixed [2, 3, 112, 113] (fun mm vs es => ∃ (i : Nat), vs = [.at (.bx 100 0 0), .at (.bx 101 0 0), .at (.v (.int .i64 a.journal.length)), .at (.v (.int .i64 i))] ∧ es = [.box 0 a.ats, .box 0 b.ats] ∧ mm + i = a.journal.length ∧ a.journal.take i = b.journal.take i) a.journal.length ?_ ?_
    · simp -implicitDefEqProofs only [go_sem]; exact ⟨0, rfl, by omega, by simp⟩
    rintro q _ _ ⟨k, rfl, rfl, hq, ht2⟩
    simp -implicitDefEqProofs only [go_sem]
    refine ⟨fun h => ?_, fun h => ?_⟩
    · refine ⟨some [], by decide +kernel, ?_⟩
      simp -implicitDefEqProofs only [go_sem]
      refine ⟨by omega, fun p hp => ⟨by omega, fun v hv => ⟨fun hpq => ?_, fun hpq => ?_⟩⟩⟩
      · exact dec_f fun e => ne_step hp hv (fun e2 => hpq (by rw [e2]; exact ⟨rfl, rfl, rfl, rfl⟩)) (by rw [e])
      · rw [wrap64 (by omega) (by omega)]
        exact ⟨q - 1, by omega, k + 1, rfl, by omega, eq_step ht2 hp hv (by cases p; cases v; simp only at hpq; obtain ⟨rfl, rfl, rfl, rfl⟩ := hpq; rfl)⟩
    · have hd := eq_end l4 ht2 h
      refine dec_t ?_
      obtain ⟨⟨w, hh, cs⟩, ba, ⟨mo, wi⟩, dp, pt, jo, dy, gi, ea⟩ := a
      obtain ⟨⟨w', hh', cs'⟩, ba', ⟨mo', wi'⟩, dp', pt', jo', dy', gi', ea'⟩ := b
      simp only at h1 h2 h3 h4 h5 h6 h7 h8 h9 hc hd
      obtain ⟨h5, h5'⟩ := h5
      subst h1; subst h2; subst h3; subst h4; subst h5; subst h5'; subst h6; subst h7; subst h8; subst h9; subst hc; subst hd
      rfl
end Go.Abs

namespace Go.Abs
open Go.RowKit Go.Proofs
set_option linter.unusedVariables false
set_option linter.unusedSimpArgs false
set_option maxRecDepth 100000
set_option maxHeartbeats 4000000

def onF (d : Int) (n : Int) (p : DPage) : Int := if p.day ≤ d then p.cell else n
def onT (d : Int) (l : List DPage) (i : Nat) : Int := (l.take i).foldl (onF d) (-1)
noncomputable def cellOnZ (l : List DPage) (d : Int) : Int := if Journal l then l.foldl (onF d) (-1) else -1
theorem onT_S {d : Int} {l : List DPage} {i : Nat} {p : DPage} (h : l[i]? = some p) : onT d l (i + 1) = onF d (onT d l i) p := by
  rw [onT, List.take_add_one, h, Option.toList_some, List.foldl_append]; rfl
theorem impl_CellOn (l : List DPage) (d : Int) (hl : l.length ≤ 1048576) (hw : ∀ p ∈ l, p.wf) : SC Tryz.prog 65 [.at (.im 4 (l.map DPage.row)), .at (.v (.int .i64 d))] [] (.at (.v (.int .i64 (cellOnZ l d)))) [] := by
  refine SC.of_V mixed Tryz.func65 (by kernel_rfl) rfl Tryz.results65 _ Tryz.ntmps65 (by simp) ?_
  simp -implicitDefEqProofs only [go_sem]
  refine T.loopW mixed [0, 1, 5, 8, 9, 10] (fun mm vs es => ∃ (i : Nat), vs = [.at (.im 4 (l.map DPage.row)), .at (.v (.int .i64 d)), .at (.v (.int .i64 (if Journal l then onT d l i else -1))), .at (.im 4 (l.map DPage.row)), .at (.v (.int .i64 l.length)), .at (.v (.int .i64 i))] ∧ es = [] ∧ mm + i = l.length) l.length ?_ ?_
  · simp -implicitDefEqProofs only [go_sem]; exact ⟨0, by unfold onT; simp, by omega⟩
  rintro q _ _ ⟨i, rfl, rfl, hn⟩
  simp -implicitDefEqProofs only [go_sem]
  refine ⟨fun h => ⟨by omega, fun p hp => ?_⟩, fun h => ?_⟩
  · refine callX [] (impl_IsJournal l hl hw) (by simp -implicitDefEqProofs only [go_sem]) ?_
    simp -implicitDefEqProofs only [go_sem]
    refine ⟨fun hj => ⟨fun k => ?_, fun k => ?_⟩, fun hj => ?_⟩
    · rw [wrap64 (by omega) (by omega)]
      exact ⟨q - 1, by omega, i + 1, ⟨by rw [if_pos hj, onT_S hp, onF, if_pos k], rfl⟩, by omega⟩
    · rw [wrap64 (by omega) (by omega)]
      exact ⟨q - 1, by omega, i + 1, ⟨by rw [if_pos hj, if_pos hj, onT_S hp, onF, if_neg k], rfl⟩, by omega⟩
    · rw [wrap64 (by omega) (by omega)]
      exact ⟨q - 1, by omega, i + 1, ⟨by rw [if_neg hj, if_neg hj], rfl⟩, by omega⟩
  · unfold cellOnZ
    split
    · rw [onT, List.take_of_length_le (by omega)]
    · rfl
/-! ### The first day at a cell -/
theorem day_step {l : List DPage} (h : Journal l) {i : Nat} {p q : DPage} (hp : l[i]? = some p) (hq : l[i + 1]? = some q) : p.day + 1 ≤ q.day := by
  have := (h.1 (i + 1) q hq).1.1
  rw [prevP_S hp] at this
  exact this
theorem day_asc {l : List DPage} (h : Journal l) : ∀ (k i : Nat) (p q : DPage), l[i]? = some p → l[i + k + 1]? = some q → p.day < q.day := by
  intro k
  induction k with
  | zero => intro i p q hp hq; have := day_step h hp hq; omega
  | succ k ih =>
    intro i p q hp hq
    have hlt : i + k + 1 < l.length := by have := (List.getElem?_eq_some_iff.1 hq).1; omega
    have h1 := ih i p l[i + k + 1] hp (List.getElem?_eq_getElem hlt)
    have h2 := day_step h (List.getElem?_eq_getElem hlt) (by rw [← hq]; congr 1)
    omega
theorem day_pair {l : List DPage} (h : Journal l) : l.Pairwise fun p q => p.day < q.day := by
  rw [List.pairwise_iff_getElem]
  intro i j hi hj hij
  exact day_asc h (j - i - 1) i l[i] l[j] (List.getElem?_eq_getElem hi) (by rw [show i + (j - i - 1) + 1 = j by omega]; exact List.getElem?_eq_getElem hj)
theorem on_late {d : Int} : ∀ (l : List DPage) (n : Int), (∀ p ∈ l, d < p.day) → l.foldl (onF d) n = n := by
  intro l
  induction l with
  | nil => intro n _; rfl
  | cons p l ih =>
    intro n h
    rw [List.foldl_cons, onF, if_neg (by have := h p (by simp); omega)]
    exact ih n fun q hq => h q (by simp [hq])
theorem first_on {c : Int} : ∀ (l : List DPage) (n : Int), l.Pairwise (fun p q => p.day < q.day) → (∀ p ∈ l, 0 ≤ p.day) → 0 ≤ firstTo c l → l.foldl (onF (firstTo c l)) n = c := by
  intro l
  induction l with
  | nil => intro n _ _ h; simp [firstTo] at h
  | cons p l ih =>
    intro n hp h0 h
    obtain ⟨h1, h2⟩ := List.pairwise_cons.1 hp
    rw [List.foldl_cons]
    by_cases e : p.cell = c
    · rw [firstTo, if_pos e, onF, if_pos (Int.le_refl _), on_late l _ h1, e]
    · rw [firstTo, if_neg e] at h ⊢
      exact ih _ h2 (fun q hq => h0 q (by simp [hq])) h
theorem first_cell {l : List DPage} {c : Int} (h : ¬ firstZ l c < 0) : cellOnZ l (firstZ l c) = c := by
  unfold firstZ at h ⊢
  by_cases hj : Journal l
  · rw [if_pos hj] at h ⊢
    rw [cellOnZ, if_pos hj]
    refine first_on l (-1) (day_pair hj) (fun p hp => ?_) (by omega)
    obtain ⟨i, hi⟩ := List.getElem?_of_mem hp
    have h1 := (hj.1 i p hi).1.1
    have h2 := prev_day (i := l.length) (fun j q _ hq => hj.1 j q hq) i (by have := (List.getElem?_eq_some_iff.1 hi).1; omega)
    omega
  · rw [if_neg hj] at h; omega
/-! ### Names of events -/
def nameZ (k : Int) : ByteArray := if k = 1 then ⟨#[103, 105, 118, 101]⟩ else if k = 2 then ⟨#[103, 111]⟩ else if k = 3 then ⟨#[119, 97, 105, 116]⟩ else if k = 4 then ⟨#[104, 111, 109, 101]⟩ else if k = 5 then ⟨#[108, 97, 121]⟩ else ⟨#[116, 97, 107, 101]⟩
theorem nameZ_ne {k : Int} : ((nameZ k).toList == (⟨#[]⟩ : ByteArray).toList) = false := by
  unfold nameZ
  split
  · decide +kernel
  split
  · decide +kernel
  split
  · decide +kernel
  split
  · decide +kernel
  split
  · decide +kernel
  · decide +kernel
theorem impl_EventName (k : Int) (h : 1 ≤ k ∧ k ≤ 6) : SC Tryz.prog 33 [.at (.v (.int .i64 k))] [] (.at (.v (.string (nameZ k)))) [] := by
  refine SC.of_V mixed Tryz.func33 (by kernel_rfl) rfl Tryz.results33 _ Tryz.ntmps33 (by simp) ?_
  simp -implicitDefEqProofs only [go_sem]
  refine callX [] (impl_InRange k 1 6) (by simp -implicitDefEqProofs only [go_sem]) ?_
  simp -implicitDefEqProofs only [go_sem]
  refine ⟨fun h2 => absurd h h2, fun _ => ?_⟩
  rw [wrap64 (by omega) (by omega)]
  refine ⟨by omega, by omega, fun r hr => ?_⟩
  have hk : k = 1 ∨ k = 2 ∨ k = 3 ∨ k = 4 ∨ k = 5 ∨ k = 6 := by omega
  rcases hk with rfl | rfl | rfl | rfl | rfl | rfl
  all_goals
    rw [← Option.some.inj hr]
    rfl
/-! ### A byte of the input -/
theorem laws_at (code : List Int) (i : Nat) (h : code.length ≤ 1048576) (hi : i ≤ 1048576) : SC Tryz.prog 26 [.at (.im 1 (code.map byteRow)), .at (.v (.int .i64 (i : Nat)))] [] (.at (.v (.int .i64 (if i < code.length then IntKind.i64.wrap (code.getD i 0) else ((i : Int) * 31 + (code.length : Int) * 7).tmod 256)))) [] := by
  refine SC.of_V mixed Tryz.func26 (by kernel_rfl) rfl Tryz.results26 _ Tryz.ntmps26 (by simp) ?_
  simp -implicitDefEqProofs only [go_sem]
  refine ⟨fun h1 => ?_, fun h1 => ?_⟩
  · rw [if_pos (by omega)]
    refine ⟨by omega, fun c hc => ?_⟩
    rw [List.getD_eq_getElem?_getD, hc]; rfl
  · rw [if_neg (by omega), wrap64 (x := (i : Int) * 31) (by omega) (by omega), wrap64 (x := (code.length : Int) * 7) (by omega) (by omega), wrap64 (by omega) (by omega)]
end Go.Abs

namespace Go.Abs
open Go.RowKit Go.Proofs
set_option linter.unusedVariables false
set_option linter.unusedSimpArgs false
set_option maxRecDepth 100000
set_option maxHeartbeats 4000000

theorem laws_big (code : List Int) (h : code.length ≤ maxLen) : SC Tryz.prog 9 [.at (.im 1 (code.map byteRow))] [] (.at (.v (.bool (decide ((1048576 : Int) < code.length))))) [] := by
  refine SC.of_V mixed Tryz.func9 (by kernel_rfl) rfl Tryz.results9 _ Tryz.ntmps9 (by simp) ?_
  simp -implicitDefEqProofs only [go_sem]
theorem home_cnt {t : DTrek} : eventsZ (homeEvZ t) 4 = (homeEvZ t).length := by
  have key : ∀ l : List Bool, eventsZ (l.map homeEv) 4 = (l.map homeEv).length := by
    intro l
    induction l with
    | nil => rfl
    | cons b l ih =>
      unfold eventsZ at ih ⊢
      simp only [sumL, List.map_cons, List.sum_cons, List.length_cons, List.length_map] at ih ⊢
      rw [ih]
      simp [homeEv]
      omega
  unfold homeEvZ
  split
  · exact key _
  · rfl
theorem law_Events (code : List Int) (code_max : code.length ≤ maxLen) (code_wf : ∀ b ∈ code, 0 ≤ b ∧ b ≤ 255) : SC Tryz.prog 4 [.at (.im 1 (code.map byteRow))] [] (.at (.v (.bool true))) [] := by
  refine SC.of_VJ mixed Tryz.func4 (by kernel_rfl) rfl Tryz.results4 _ Tryz.ntmps4 (by simp) ?_
  simp -implicitDefEqProofs only [go_sem]
  refine T.stepJ mixed ?_
  simp -implicitDefEqProofs only [go_sem]
  refine callX [] (laws_big code code_max) (by simp -implicitDefEqProofs only [go_sem]) ?_
  simp -implicitDefEqProofs only [go_sem]
  intro hbig
  have hl : code.length ≤ 1099511627776 := by omega
  have hr := run36_ok hl
  have hx := runX_ok hl
  have hf := hx.1.fit
  have hev : ∀ e ∈ runL code, I64 e.n := fun e he => (hr.2.2.2.2.2.1 e he).1.i64
  have hll := hr.2.2.2.2.2.2.1
  have hh := hr.2.2.2.2.2.2.2
  have hpos : 1 ≤ (runL code).length := by
    cases h : runL code with
    | nil => rw [h] at hh; cases hh
    | cons a r => simp
  refine callX [] ((spec_DrawRunEvents code hl).frozen) (by simp -implicitDefEqProofs only [go_sem]) ?_
  simp -implicitDefEqProofs only [go_sem]
  refine callX [] ((impl_RunEvents (runT0 code) (runL code) hr.1.sane (by omega) hev).frozen) (by simp -implicitDefEqProofs only [go_sem]) ?_
  simp -implicitDefEqProofs only [go_sem]
  rw [show runZ (runT0 code) (runL code) = runX code from rfl]
  have hat : ∃ a : Int, (if 3 < code.length then IntKind.i64.wrap (code.getD 3 0) else ((3 : Nat) * 31 + (code.length : Int) * 7).tmod 256) = a ∧ 0 ≤ a ∧ a ≤ 255 := by
    refine ⟨_, rfl, ?_⟩
    split
    · rename_i h3
      have := code_wf (code.getD 3 0) (by rw [List.getD_eq_getElem?_getD, List.getElem?_eq_getElem h3]; exact List.getElem_mem h3)
      rw [wrap64 (by omega) (by omega)]; exact this
    · rw [Int.tmod_eq_emod_of_nonneg (by omega)]
      omega
  obtain ⟨a, ha, ha0, ha1⟩ := hat
  have c3 : SC Tryz.prog 26 [.at (.im 1 (code.map byteRow)), .at (.v (.int .i64 3))] [] (.at (.v (.int .i64 a))) [] := by
    rw [← ha]
    exact laws_at code 3 (by omega) (by decide)
  refine callX [] (c3) (by simp -implicitDefEqProofs only [go_sem]) ?_
  simp -implicitDefEqProofs only [go_sem]
  refine ⟨by omega, ?_⟩
  obtain ⟨k, hk, hkl⟩ : ∃ k : Nat, a.tmod (runL code).length = (k : Int) ∧ k < (runL code).length := by
    rw [Int.tmod_eq_emod_of_nonneg ha0]
    have h1 := Int.emod_nonneg a (b := (runL code).length) (by omega)
    have h2 := Int.emod_lt_of_pos a (b := (runL code).length) (by omega)
    exact ⟨(a % (runL code).length).toNat, by omega, by omega⟩
  rw [hk]
  refine T.stepJ mixed ?_
  simp -implicitDefEqProofs only [go_sem]
  refine ⟨some [], by decide +kernel, ?_⟩
  simp -implicitDefEqProofs only [go_sem]
  refine callXQ [] (impl_IsTrek (runT0 code) hr.1.fit) (by simp -implicitDefEqProofs only [go_sem]) ?_
  simp -implicitDefEqProofs only [go_sem]
  refine callXQ [] (impl_IsTrek (runX code) hf) (by simp -implicitDefEqProofs only [go_sem]) ?_
  simp -implicitDefEqProofs only [go_sem]
  have htr : (decide (trekP (runT0 code)) == decide (trekP (runX code))) = true := by
    rw [beq_iff_eq]; exact decide_eq_decide.2 (run_trek (runL code) (runT0 code))
  have e1 : List.take (k - Int.toNat 0) (List.drop (Int.toNat 0) (List.map DEvent.row (runL code))) = ((runL code).take k).map DEvent.row := by
    simp
  rw [e1]
  have hev1 : ∀ e ∈ (runL code).take k, I64 e.n := fun e he => hev e (List.mem_of_mem_take he)
  have hev2 : ∀ e ∈ (runL code).drop k, I64 e.n := fun e he => hev e (List.mem_of_mem_drop he)
  have e2 : List.take ((runL code).length - k) (List.drop k (List.map DEvent.row (runL code))) = ((runL code).drop k).map DEvent.row := by
    rw [← List.map_drop, List.take_of_length_le (by simp)]
  have hsane : (runZ (runT0 code) ((runL code).take k)).Sane := run_sane _ _ hr.1.sane hev1
  have hge : (1 : Int) ≤ eventsZ (runL code) 1 := by
    cases h : runL code with
    | nil => rw [h] at hh; cases hh
    | cons e r =>
      rw [h] at hh
      have he : e = ⟨1, 10, false⟩ := Option.some.inj hh
      have hb := sum_all (f := fun e : DEvent => if e.kind = 1 then (1 : Int) else 0) (l := r) (B := 1) (fun c _ => by split <;> omega)
      unfold eventsZ
      rw [he]
      simp only [sumL, List.map_cons, List.sum_cons] at hb ⊢
      simp only [if_true] at hb ⊢
      omega
  refine ⟨fun _ => ⟨by omega, ?_⟩, fun k0 => ?_⟩
  · refine callXQ [] ((impl_RunEvents (runT0 code) ((runL code).take k) hr.1.sane (by simp; omega) hev1).frozen) (by simp -implicitDefEqProofs only [go_sem]) ?_
    simp -implicitDefEqProofs only [go_sem]
    rw [e2]
    refine ⟨by omega, ?_⟩
    refine callXQ [] ((impl_RunEvents (runZ (runT0 code) ((runL code).take k)) ((runL code).drop k) hsane (by simp; omega) hev2).frozen) (by simp -implicitDefEqProofs only [go_sem]) ?_
    simp -implicitDefEqProofs only [go_sem]
    rw [run_split, show runZ (runT0 code) (runL code) = runX code from rfl]
    refine callXQ [] (impl_EqualTreks (runX code) (runX code) hf) (by simp -implicitDefEqProofs only [go_sem]) ?_
    simp -implicitDefEqProofs only [go_sem]
    refine callXQ [] (impl_CountEvents (runL code) 1 (by omega)) (by simp -implicitDefEqProofs only [go_sem]) ?_
    simp -implicitDefEqProofs only [go_sem]
    refine ⟨fun k => by omega, fun _ => ?_⟩
    refine callX [] (spec_DrawHomeEvents code hl) (by simp -implicitDefEqProofs only [go_sem]) ?_
    simp -implicitDefEqProofs only [go_sem]
    have hy := heT_ok hl
    have hyf := hy.1.fit
    refine callX [] ((impl_HomeEvents (heT code) hyf).frozen) (by simp -implicitDefEqProofs only [go_sem]) ?_
    simp -implicitDefEqProofs only [go_sem]
    have hcnt : eventsZ (homeEvZ (heT code)) 4 = (homeEvZ (heT code)).length := home_cnt
    refine T.joinJ mixed [0] (fun vs es => ∃ (_ : Unit), vs = [.at (.im 1 (code.map byteRow))] ∧ es = [] ∧ True) ?_ ?_
    · simp -implicitDefEqProofs only [go_sem]
      refine callX [] (impl_IsTrek (heT code) hyf) (by simp -implicitDefEqProofs only [go_sem]) ?_
      simp -implicitDefEqProofs only [go_sem]
      refine ⟨fun ht => ?_, fun ht => ?_⟩
      · refine callX [] ((impl_RunEvents (heT code) (homeEvZ (heT code)) hy.1 (homeEvZ_len (by decide)) homeEvZ_n).frozen) (by simp -implicitDefEqProofs only [go_sem]) ?_
        simp -implicitDefEqProofs only [go_sem]
        refine callX [] (impl_AtBase (runZ (heT code) (homeEvZ (heT code)))) (by simp -implicitDefEqProofs only [go_sem]) ?_
        simp -implicitDefEqProofs only [go_sem]
        refine ⟨fun _ => ?_, fun k => absurd (home_short ht (by omega)) k⟩
        refine callX [] (impl_CountEvents (homeEvZ (heT code)) 4 (homeEvZ_len (by decide))) (by simp -implicitDefEqProofs only [go_sem]) ?_
        simp -implicitDefEqProofs only [go_sem]
        exact ⟨fun k => k hcnt, fun _ => ⟨(), trivial⟩⟩
      · refine callX [] (impl_CountEvents (homeEvZ (heT code)) 4 (homeEvZ_len (by decide))) (by simp -implicitDefEqProofs only [go_sem]) ?_
        simp -implicitDefEqProofs only [go_sem]
        exact ⟨fun k => k hcnt, fun _ => ⟨(), trivial⟩⟩
    rintro _ _ ⟨_, rfl, rfl, _⟩
    simp -implicitDefEqProofs only [go_sem]
    have hae := aeE_n hl
    have had := d34_ok hl
    refine callX [] (spec_DrawApplyEvent code hl) (by simp -implicitDefEqProofs only [go_sem]) ?_
    simp -implicitDefEqProofs only [go_sem]
    refine callX [] ((impl_ApplyEvent (d34 code).1 (aeE code) had.1 hae).frozen) (by simp -implicitDefEqProofs only [go_sem]) ?_
    simp -implicitDefEqProofs only [go_sem]
    refine ⟨fun hap => ?_, fun hap => ?_⟩
    · rw [apply_no hap]
      refine callX [] (impl_EqualTreks (d34 code).1 (d34 code).1 had.1.fit) (by simp -implicitDefEqProofs only [go_sem]) ?_
      simp -implicitDefEqProofs only [go_sem]
      exact fun h => absurd h hap
    · intro _
      refine callX [] (impl_EventName (aeE code).kind (apply_kind hap)) (by simp -implicitDefEqProofs only [go_sem]) ?_
      simp -implicitDefEqProofs only [go_sem]
      exact nameZ_ne
  · exact absurd (htr.symm.trans k0) (by decide)
end Go.Abs
