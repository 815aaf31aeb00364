/- Turning back: how long a party can wait, ways that are safe. -/
import Derived.Test.YtgnomlceahpbkaaGreatASafe
import Derived.Test.YtgnomlceahpbkaaGreatAStpX
namespace Go.Abs
open Go.RowKit Go.Proofs
set_option linter.unusedVariables false
set_option linter.unusedSimpArgs false
set_option maxRecDepth 100000
set_option maxHeartbeats 4000000

theorem waitStepZ_past {x : DLand} {base : Int} {r : DRule} {l : List DDepot} {p : DParty} {s : Bool} {N : Nat} (hN : p.past.length ≤ N) (h10 : 10 ≤ N) : (waitStepZ x base r l p s).past.length ≤ N := by
  by_cases h : waitStepP x base r l p s
  · rw [waitStepZ, if_pos h]; exact Nat.le_trans (addDay_len _ _) h10
  · rw [waitStepZ, if_neg h]; exact hN
theorem waitStepZ_c {x : DLand} {base : Int} {r : DRule} {l : List DDepot} {p : DParty} {s : Bool} {N : Nat} (hN : p.crew.length ≤ N) : (waitStepZ x base r l p s).crew.length ≤ N := by rw [waitStepZ_crew]; exact hN
/-- The storm of a day that is waited: at worst (b), or none. -/
noncomputable def wst (r : DRule) (b : Bool) (p : DParty) : Bool := if b = true then decide (mayP r p.past) else false
noncomputable def waitsF (x : DLand) (base : Int) (r : DRule) (l : List DDepot) (b : Bool) : Nat → DParty → Nat
  | 0, _ => 0
  | n + 1, p => if waitStepP x base r l p (wst r b p) then waitsF x base r l b n (waitStepZ x base r l p (wst r b p)) + 1 else 0
theorem waitsF_le {x : DLand} {base : Int} {r : DRule} {l : List DDepot} {b : Bool} : ∀ (n : Nat) (p : DParty), waitsF x base r l b n p ≤ n := by
  intro n
  induction n with
  | zero => intro p; exact Nat.le_refl _
  | succ n ih =>
    intro p
    rw [waitsF]
    split
    · have := ih (waitStepZ x base r l p (wst r b p)); omega
    · omega
theorem waitsF_calm {x : DLand} {base : Int} {r : DRule} {l : List DDepot} {n : Nat} {p : DParty} : waitsF x base r l false (n + 1) p = if waitStepP x base r l p false then waitsF x base r l false n (waitStepZ x base r l p false) + 1 else 0 := by
  have e : wst r false p = false := if_neg Bool.false_ne_true
  rw [waitsF, e]
theorem waitsF_worst {x : DLand} {base : Int} {r : DRule} {l : List DDepot} {n : Nat} {p : DParty} : waitsF x base r l true (n + 1) p = if waitStepP x base r l p (decide (mayP r p.past)) then waitsF x base r l true n (waitStepZ x base r l p (decide (mayP r p.past))) + 1 else 0 := by
  have e : wst r true p = decide (mayP r p.past) := if_pos rfl
  rw [waitsF, e]
theorem impl_waits_calm (x : DLand) (base : Int) (r : DRule) (l : List DDepot) (p : DParty) (hx : x.cells.length ≤ 1048576) (hl : l.length ≤ 1048576) (hc : p.crew.length ≤ 1048576) (hp : p.past.length ≤ 1048576) :
    SC Tryz.prog 140 [.ag x.ats, .at (.v (.int .i64 base)), .ag r.ats, .at (.im 2 (l.map DDepot.row)), .ag p.ats, .at (.v (.bool false))] [] (.at (.v (.int .i64 (waitsF x base r l false 100 p : Nat)))) [] := by
  refine SC.of_V mixed Tryz.func140 (by kernel_rfl) rfl Tryz.results140 _ Tryz.ntmps140 (by simp) ?_
  simp -implicitDefEqProofs only [go_sem]
  refine T.loopW mixed [1, 3, 5, 6, 8, 10, 16] (fun mm vs es => ∃ (i : Nat) (y : DParty), vs = [.at (.v (.int .i64 base)), .at (.im 2 (l.map DDepot.row)), .at (.v (.bool false)), .at (.bx 100 0 0), .at (.bx 101 0 0), .at (.bx 102 0 0), .at (.v (.int .i64 (i : Nat)))] ∧ es = [.box 0 x.ats, .box 0 r.ats, .box 0 y.ats] ∧ mm + i = 100 ∧ (y.crew.length ≤ 1048576 ∧ y.past.length ≤ 1048576) ∧ waitsF x base r l false 100 p = i + waitsF x base r l false mm y) 100 ?_ ?_
  · simp -implicitDefEqProofs only [go_sem]
    exact ⟨0, p, rfl, rfl, rfl, ⟨hc, hp⟩, (Nat.zero_add _).symm⟩
  rintro q _ _ ⟨i, y, rfl, rfl, hn, ⟨hyc, hyp⟩, ha⟩
  simp -implicitDefEqProofs only [go_sem]
  refine ⟨fun hlt => ?_, fun hlt => ?_⟩
  · refine ⟨some [], by decide +kernel, ?_⟩
    simp -implicitDefEqProofs only [go_sem]
    refine callXQ [] ((impl_WaitStep x base r l y false hx hl hyc hyp).frozen) (by simp -implicitDefEqProofs only [go_sem]) ?_
    simp -implicitDefEqProofs only [go_sem]
    obtain ⟨q, rfl⟩ : ∃ q', q = q' + 1 := ⟨q - 1, by omega⟩
    have hs := waitsF_calm (x := x) (base := base) (r := r) (l := l) (n := q) (p := y)
    rw [hs] at ha
    refine ⟨fun hg => ?_, fun hg => ?_⟩
    · rw [if_neg hg] at ha
      rw [ha]; rfl
    · rw [if_pos hg] at ha
      exact ⟨q, by omega, i + 1, waitStepZ x base r l y false, wrapS (by omega) (by omega) (by omega), rfl, by omega, ⟨waitStepZ_c hyc, waitStepZ_past hyp (by decide)⟩, by rw [ha]; omega⟩
  · have hq : q = 0 := by omega
    subst hq
    rw [ha, waitsF]
    omega
theorem impl_waits_worst (x : DLand) (base : Int) (r : DRule) (l : List DDepot) (p : DParty) (hx : x.cells.length ≤ 1048576) (hl : l.length ≤ 1048576) (hc : p.crew.length ≤ 1048576) (hp : p.past.length ≤ 1048576) :
    SC Tryz.prog 140 [.ag x.ats, .at (.v (.int .i64 base)), .ag r.ats, .at (.im 2 (l.map DDepot.row)), .ag p.ats, .at (.v (.bool true))] [] (.at (.v (.int .i64 (waitsF x base r l true 100 p : Nat)))) [] := by
  refine SC.of_V mixed Tryz.func140 (by kernel_rfl) rfl Tryz.results140 _ Tryz.ntmps140 (by simp) ?_
  simp -implicitDefEqProofs only [go_sem]
  refine T.loopW mixed [1, 3, 5, 6, 8, 10, 16] (fun mm vs es => ∃ (i : Nat) (y : DParty), vs = [.at (.v (.int .i64 base)), .at (.im 2 (l.map DDepot.row)), .at (.v (.bool true)), .at (.bx 100 0 0), .at (.bx 101 0 0), .at (.bx 102 0 0), .at (.v (.int .i64 (i : Nat)))] ∧ es = [.box 0 x.ats, .box 0 r.ats, .box 0 y.ats] ∧ mm + i = 100 ∧ (y.crew.length ≤ 1048576 ∧ y.past.length ≤ 1048576) ∧ waitsF x base r l true 100 p = i + waitsF x base r l true mm y) 100 ?_ ?_
  · simp -implicitDefEqProofs only [go_sem]
    exact ⟨0, p, rfl, rfl, rfl, ⟨hc, hp⟩, (Nat.zero_add _).symm⟩
  rintro q _ _ ⟨i, y, rfl, rfl, hn, ⟨hyc, hyp⟩, ha⟩
  simp -implicitDefEqProofs only [go_sem]
  refine ⟨fun hlt => ?_, fun hlt => ?_⟩
  · refine ⟨some [], by decide +kernel, ?_⟩
    simp -implicitDefEqProofs only [go_sem]
    refine callXQ [] (impl_MayStorm r y.past hyp) (by simp -implicitDefEqProofs only [go_sem]) ?_
    simp -implicitDefEqProofs only [go_sem]
    refine callXQ [] ((impl_WaitStep x base r l y (decide (mayP r y.past)) hx hl hyc hyp).frozen) (by simp -implicitDefEqProofs only [go_sem]) ?_
    simp -implicitDefEqProofs only [go_sem]
    obtain ⟨q, rfl⟩ : ∃ q', q = q' + 1 := ⟨q - 1, by omega⟩
    have hs := waitsF_worst (x := x) (base := base) (r := r) (l := l) (n := q) (p := y)
    rw [hs] at ha
    refine ⟨fun hg => ?_, fun hg => ?_⟩
    · rw [if_neg hg] at ha
      rw [ha]; rfl
    · rw [if_pos hg] at ha
      exact ⟨q, by omega, i + 1, waitStepZ x base r l y (decide (mayP r y.past)), wrapS (by omega) (by omega) (by omega), rfl, by omega, ⟨waitStepZ_c hyc, waitStepZ_past hyp (by decide)⟩, by rw [ha]; omega⟩
  · have hq : q = 0 := by omega
    subst hq
    rw [ha, waitsF]
    omega
theorem spec_waits_calm (x : DLand) (base : Int) (r : DRule) (l : List DDepot) (p : DParty) (hx : x.cells.length ≤ 1048576) (hl : l.length ≤ 1048576) (hc : p.crew.length ≤ 1048576) (hp : p.past.length ≤ 1048576) :
    SC Tryz.prog 141 [.ag x.ats, .at (.v (.int .i64 base)), .ag r.ats, .at (.im 2 (l.map DDepot.row)), .ag p.ats, .at (.v (.bool false))] [] (.at (.v (.int .i64 (waitsF x base r l false 100 p : Nat)))) [] := by
  refine SC.of_V mixed Tryz.func141 (by kernel_rfl) rfl Tryz.results141 _ Tryz.ntmps141 (by simp) ?_
  simp -implicitDefEqProofs only [go_sem]
  refine T.loopW mixed [1, 3, 5, 6, 8, 10, 13] (fun mm vs es => ∃ (i : Nat) (y : DParty), vs = [.at (.v (.int .i64 base)), .at (.im 2 (l.map DDepot.row)), .at (.v (.bool false)), .at (.bx 100 0 0), .at (.bx 101 0 0), .at (.bx 102 0 0), .at (.v (.int .i64 (i : Nat)))] ∧ es = [.box 0 x.ats, .box 0 r.ats, .box 0 y.ats] ∧ mm + i = 100 ∧ (y.crew.length ≤ 1048576 ∧ y.past.length ≤ 1048576) ∧ waitsF x base r l false 100 p = i + waitsF x base r l false mm y) 100 ?_ ?_
  · simp -implicitDefEqProofs only [go_sem]
    exact ⟨0, p, rfl, rfl, rfl, ⟨hc, hp⟩, (Nat.zero_add _).symm⟩
  rintro q _ _ ⟨i, y, rfl, rfl, hn, ⟨hyc, hyp⟩, ha⟩
  simp -implicitDefEqProofs only [go_sem]
  refine ⟨fun hlt => ?_, fun hlt => ?_⟩
  · refine ⟨some [], by decide +kernel, ?_⟩
    simp -implicitDefEqProofs only [go_sem]
    refine callXQ [] ((spec_WaitStep x base r l y false hx hl hyc hyp).frozen) (by simp -implicitDefEqProofs only [go_sem]) ?_
    simp -implicitDefEqProofs only [go_sem]
    obtain ⟨q, rfl⟩ : ∃ q', q = q' + 1 := ⟨q - 1, by omega⟩
    have hs := waitsF_calm (x := x) (base := base) (r := r) (l := l) (n := q) (p := y)
    rw [hs] at ha
    refine ⟨fun hg => ?_, fun hg => ?_⟩
    · rw [if_neg hg] at ha
      rw [ha]; rfl
    · rw [if_pos hg] at ha
      exact ⟨q, by omega, i + 1, waitStepZ x base r l y false, wrapS (by omega) (by omega) (by omega), rfl, by omega, ⟨waitStepZ_c hyc, waitStepZ_past hyp (by decide)⟩, by rw [ha]; omega⟩
  · have hq : q = 0 := by omega
    subst hq
    rw [ha, waitsF]
    omega
noncomputable def latestZ (x : DLand) (base : Int) (r : DRule) (l : List DDepot) (p : DParty) : Nat := waitsF x base r l true 100 p
noncomputable def calmN (x : DLand) (base : Int) (r : DRule) (l : List DDepot) (p : DParty) : Nat := waitsF x base r l false 100 p
theorem impl_LatestTurn (x : DLand) (base : Int) (r : DRule) (l : List DDepot) (p : DParty) (hx : x.cells.length ≤ 1048576) (hl : l.length ≤ 1048576) (hc : p.crew.length ≤ 1048576) (hp : p.past.length ≤ 1048576) :
    SC Tryz.prog 59 [.ag x.ats, .at (.v (.int .i64 base)), .ag r.ats, .at (.im 2 (l.map DDepot.row)), .ag p.ats] [] (.at (.v (.int .i64 (latestZ x base r l p : Nat)))) [] := by
  refine SC.of_V mixed Tryz.func59 (by kernel_rfl) rfl Tryz.results59 _ Tryz.ntmps59 (by simp) ?_
  simp -implicitDefEqProofs only [go_sem]
  refine callX [] (impl_waits_worst x base r l p hx hl hc hp) (by simp -implicitDefEqProofs only [go_sem]) ?_
  simp -implicitDefEqProofs only [go_sem]
  rfl
theorem impl_LatestCalm (x : DLand) (base : Int) (r : DRule) (l : List DDepot) (p : DParty) (hx : x.cells.length ≤ 1048576) (hl : l.length ≤ 1048576) (hc : p.crew.length ≤ 1048576) (hp : p.past.length ≤ 1048576) :
    SC Tryz.prog 60 [.ag x.ats, .at (.v (.int .i64 base)), .ag r.ats, .at (.im 2 (l.map DDepot.row)), .ag p.ats] [] (.at (.v (.int .i64 (calmN x base r l p : Nat)))) [] := by
  refine SC.of_V mixed Tryz.func60 (by kernel_rfl) rfl Tryz.results60 _ Tryz.ntmps60 (by simp) ?_
  simp -implicitDefEqProofs only [go_sem]
  refine callX [] (impl_waits_calm x base r l p hx hl hc hp) (by simp -implicitDefEqProofs only [go_sem]) ?_
  simp -implicitDefEqProofs only [go_sem]
  rfl
theorem spec_LatestCalm (x : DLand) (base : Int) (r : DRule) (l : List DDepot) (p : DParty) (hx : x.cells.length ≤ 1048576) (hl : l.length ≤ 1048576) (hc : p.crew.length ≤ 1048576) (hp : p.past.length ≤ 1048576) :
    SC Tryz.prog 61 [.ag x.ats, .at (.v (.int .i64 base)), .ag r.ats, .at (.im 2 (l.map DDepot.row)), .ag p.ats] [] (.at (.v (.int .i64 (calmN x base r l p : Nat)))) [] := by
  refine SC.of_V mixed Tryz.func61 (by kernel_rfl) rfl Tryz.results61 _ Tryz.ntmps61 (by simp) ?_
  simp -implicitDefEqProofs only [go_sem]
  refine callX [] (spec_waits_calm x base r l p hx hl hc hp) (by simp -implicitDefEqProofs only [go_sem]) ?_
  simp -implicitDefEqProofs only [go_sem]
  rfl
/-! ### Choices, turning back -/
theorem nearZ_len4 {x : DLand} {n : Int} : (nearZ x n).length ≤ 4 := by
  unfold nearZ; split
  · exact DLand.near_len
  · simp
noncomputable def choicesZ (x : DLand) (base : Int) (r : DRule) (l : List DDepot) (p : DParty) : List Int := (nearZ x p.at_).filter fun c => decide (mayGoP x base r l p c)
theorem choicesZ_len {x : DLand} {base : Int} {r : DRule} {l : List DDepot} {p : DParty} : (choicesZ x base r l p).length ≤ 4 := Nat.le_trans (List.length_filter_le _ _) nearZ_len4
theorem impl_ChoicesOf (x : DLand) (base : Int) (r : DRule) (l : List DDepot) (p : DParty) (hx : x.cells.length ≤ 1048576) (hl : l.length ≤ 1048576) (hc : p.crew.length ≤ 1048576) (hp : p.past.length ≤ 1048576) :
    SC Tryz.prog 144 [.ag x.ats, .at (.v (.int .i64 base)), .ag r.ats, .at (.im 2 (l.map DDepot.row)), .ag p.ats] [] (.at (.fr 1 ((choicesZ x base r l p).map intRow))) [] := by
  refine SC.of_W mixed Tryz.func144 (by kernel_rfl) rfl Tryz.results144 _ Tryz.ntmps144 (by simp) ?_
  simp -implicitDefEqProofs only [go_sem]
  refine callX [] (impl_NearZ x p.at_ hx) (by simp -implicitDefEqProofs only [go_sem]) ?_
  simp -implicitDefEqProofs only [go_sem]
  have h4 := nearZ_len4 (x := x) (n := p.at_)
  refine T.loopW mixed [1, 3, 5, 7, 9, 11, 18, 19, 20] (fun mm vs es => ∃ (i : Nat) (out : List Int), vs = [.at (.v (.int .i64 base)), .at (.im 2 (l.map DDepot.row)), .at (.bx 100 0 0), .at (.bx 101 0 0), .at (.bx 102 0 0), .at (.ow 103 0 1 out.length), .at (.ow 104 0 1 ((nearZ x p.at_).length)), .at (.v (.int .i64 ((nearZ x p.at_).length))), .at (.v (.int .i64 (i : Nat)))] ∧ es = [.box 0 x.ats, .box 0 r.ats, .box 0 p.ats, .arr 0 1 (out.map intRow), .arr 0 1 ((nearZ x p.at_).map intRow)] ∧ mm + i = (nearZ x p.at_).length ∧ out.length ≤ i ∧ choicesZ x base r l p = out ++ ((nearZ x p.at_).drop i).filter fun c => decide (mayGoP x base r l p c)) ((nearZ x p.at_).length) ?_ ?_
  · simp -implicitDefEqProofs only [go_sem]
    exact ⟨0, [], ⟨rfl, rfl⟩, rfl, by omega, by simp, by simp [choicesZ]⟩
  rintro q _ _ ⟨i, out, rfl, rfl, hn, ho, hs⟩
  simp -implicitDefEqProofs only [go_sem]
  refine ⟨fun hlt => ?_, fun hlt => ?_⟩
  · refine ⟨by omega, by omega, fun c hcc => ?_⟩
    rw [drop_get hcc] at hs
    refine callX [] (impl_MayGo x base r l p c hx hl hc hp) (by simp -implicitDefEqProofs only [go_sem]) ?_
    simp -implicitDefEqProofs only [go_sem]
    refine ⟨fun hg => ?_, fun hg => ?_⟩
    · rw [List.filter_cons, if_pos (decide_eq_true hg)] at hs
      exact ⟨room_s (by omega) (by decide), q - 1, by omega, i + 1, out ++ [c], ⟨by simp, wrapS (by omega) (by omega) (by omega)⟩, by simp [intRow], by omega, by simp; omega, by rw [hs]; simp⟩
    · rw [List.filter_cons, if_neg (by rw [decide_eq_false hg]; decide)] at hs
      exact ⟨q - 1, by omega, i + 1, out, ⟨rfl, wrapS (by omega) (by omega) (by omega)⟩, rfl, by omega, by omega, hs⟩
  · rw [drop_all hlt] at hs
    rw [hs, List.filter_nil, List.append_nil]
    exact ⟨rfl, rfl⟩
def mustP (x : DLand) (base : Int) (r : DRule) (l : List DDepot) (p : DParty) : Prop := (backP x base r l p ∧ p.at_ ≠ base ∧ ¬ mayWaitP x base r l p) ∧ ∀ c ∈ choicesZ x base r l p, daysZ x c base < daysZ x p.at_ base
noncomputable instance (x : DLand) (base : Int) (r : DRule) (l : List DDepot) (p : DParty) : Decidable (mustP x base r l p) := Classical.propDecidable _
theorem impl_MustTurn (x : DLand) (base : Int) (r : DRule) (l : List DDepot) (p : DParty) (hx : x.cells.length ≤ 1048576) (hl : l.length ≤ 1048576) (hc : p.crew.length ≤ 1048576) (hp : p.past.length ≤ 1048576) :
    SC Tryz.prog 63 [.ag x.ats, .at (.v (.int .i64 base)), .ag r.ats, .at (.im 2 (l.map DDepot.row)), .ag p.ats] [] (.at (.v (.bool (decide (mustP x base r l p))))) [] := by
  refine SC.of_V mixed Tryz.func63 (by kernel_rfl) rfl Tryz.results63 _ Tryz.ntmps63 (by simp) ?_
  simp -implicitDefEqProofs only [go_sem]
  refine callX [] (impl_CanReturn x base r l p hx hl hc) (by simp -implicitDefEqProofs only [go_sem]) ?_
  simp -implicitDefEqProofs only [go_sem]
  refine ⟨fun h1 => ?_, fun h1 => dec_f fun h => h1 h.1.1⟩
  refine ⟨fun h2 => ?_, fun h2 => dec_f fun h => h.1.2.1 h2⟩
  refine callX [] (impl_MayWait x base r l p hx hl hc hp) (by simp -implicitDefEqProofs only [go_sem]) ?_
  simp -implicitDefEqProofs only [go_sem]
  refine ⟨fun h3 => dec_f fun h => h.1.2.2 h3, fun h3 => ?_⟩
  refine callX [] (impl_ChoicesOf x base r l p hx hl hc hp) (by simp -implicitDefEqProofs only [go_sem]) ?_
  simp -implicitDefEqProofs only [go_sem]
  have h4 := choicesZ_len (x := x) (base := base) (r := r) (l := l) (p := p)
  refine T.loopW mixed [1, 5, 9, 39, 40, 41] (fun mm vs es => ∃ (i : Nat), vs = [.at (.v (.int .i64 base)), .at (.bx 100 0 0), .at (.bx 101 0 0), .at (.ow 102 0 1 ((choicesZ x base r l p).length)), .at (.v (.int .i64 ((choicesZ x base r l p).length))), .at (.v (.int .i64 (i : Nat)))] ∧ es = [.box 0 x.ats, .box 0 p.ats, .arr 0 1 ((choicesZ x base r l p).map intRow)] ∧ mm + i = (choicesZ x base r l p).length ∧ ∀ c ∈ (choicesZ x base r l p).take i, daysZ x c base < daysZ x p.at_ base) ((choicesZ x base r l p).length) ?_ ?_
  · simp -implicitDefEqProofs only [go_sem]
    exact ⟨0, rfl, by omega, by simp⟩
  rintro q _ _ ⟨i, rfl, rfl, hn, hs⟩
  simp -implicitDefEqProofs only [go_sem]
  refine ⟨fun hlt => ⟨by omega, by omega, fun c hcc => ?_⟩, fun hlt => ?_⟩
  · refine ⟨some [], by decide +kernel, ?_⟩
    simp -implicitDefEqProofs only [go_sem]
    refine callXQ [] (impl_Days x c base hx) (by simp -implicitDefEqProofs only [go_sem]) ?_
    simp -implicitDefEqProofs only [go_sem]
    refine callXQ [] (impl_Days x p.at_ base hx) (by simp -implicitDefEqProofs only [go_sem]) ?_
    simp -implicitDefEqProofs only [go_sem]
    refine ⟨fun hle => dec_f fun h => ?_, fun hgt => ⟨q - 1, by omega, i + 1, wrapS (by omega) (by omega) (by omega), by omega, ?_⟩⟩
    · have := h.2 c (mem_get hcc)
      omega
    · intro e he
      rw [List.take_add_one, hcc, Option.toList_some, List.mem_append, List.mem_singleton] at he
      rcases he with he | rfl
      · exact hs e he
      · omega
  · rw [List.take_of_length_le (by omega)] at hs
    exact dec_t ⟨⟨h1, h2, h3⟩, hs⟩
/-! ### Ways -/
theorem laws_ascends (l : List Int) (hl : l.length ≤ 1048576) (h : l.Pairwise (· < ·)) : SC Tryz.prog 69 [.at (.im 1 (l.map intRow))] [] (.at (.v (.bool true))) [] := by
  refine SC.of_V mixed Tryz.func69 (by kernel_rfl) rfl Tryz.results69 _ Tryz.ntmps69 (by simp) ?_
  simp -implicitDefEqProofs only [go_sem]
  refine T.loopW mixed [0, 3] (fun mm vs es => ∃ (i : Nat), vs = [.at (.im 1 (l.map intRow)), .at (.v (.int .i64 (i : Nat)))] ∧ es = [] ∧ mm + i = l.length + 1 ∧ 1 ≤ i) l.length ?_ ?_
  · simp -implicitDefEqProofs only [go_sem]
    exact ⟨1, rfl, by omega, Nat.le_refl _⟩
  rintro q _ _ ⟨i, rfl, rfl, hn, hi⟩
  simp -implicitDefEqProofs only [go_sem]
  · intro hlt
    refine ⟨some [], by decide +kernel, ?_⟩
    simp -implicitDefEqProofs only [go_sem]
    rw [wrap64 (by omega) (by omega), show ((i : Int) - 1).toNat = i - 1 by omega]
    refine ⟨by omega, fun a ha => ⟨by omega, fun b hb => ⟨fun hle => ?_, fun _ => ⟨q - 1, by omega, i + 1, wrapS (by omega) (by omega) (by omega), by omega, by omega⟩⟩⟩⟩
    have h1 := List.pairwise_iff_getElem.1 h (i - 1) i (List.getElem?_eq_some_iff.1 ha).1 (List.getElem?_eq_some_iff.1 hb).1 (by omega)
    rw [(List.getElem?_eq_some_iff.1 ha).2, (List.getElem?_eq_some_iff.1 hb).2] at h1
    omega
theorem laws_contains (l : List Int) (n : Int) (hl : l.length ≤ 1048576) : SC Tryz.prog 70 [.at (.im 1 (l.map intRow)), .at (.v (.int .i64 n))] [] (.at (.v (.bool (decide (n ∈ l))))) [] := by
  refine SC.of_V mixed Tryz.func70 (by kernel_rfl) rfl Tryz.results70 _ Tryz.ntmps70 (by simp) ?_
  simp -implicitDefEqProofs only [go_sem]
  refine T.loopW mixed [0, 1, 5] (fun mm vs es => ∃ (i : Nat), vs = [.at (.im 1 (l.map intRow)), .at (.v (.int .i64 n)), .at (.v (.int .i64 (i : Nat)))] ∧ es = [] ∧ mm + i = l.length ∧ n ∉ l.take i) l.length ?_ ?_
  · simp -implicitDefEqProofs only [go_sem]
    exact ⟨0, rfl, by omega, by simp⟩
  rintro q _ _ ⟨i, rfl, rfl, hn, hs⟩
  simp -implicitDefEqProofs only [go_sem]
  refine ⟨fun hlt => ⟨by omega, fun c hcc => ⟨fun e => dec_t (by rw [← e]; exact mem_get hcc), fun e => ⟨q - 1, by omega, i + 1, wrapS (by omega) (by omega) (by omega), by omega, ?_⟩⟩⟩, fun hlt => ?_⟩
  · rw [List.take_add_one, hcc]
    simp only [Option.toList_some, List.mem_append, List.mem_singleton, not_or]
    exact ⟨hs, fun h => e h.symm⟩
  · rw [List.take_of_length_le (by omega)] at hs
    exact dec_f hs
theorem impl_IsWay (x : DLand) (way : List Int) (hx : x.cells.length ≤ 1048576) (hw : way.length ≤ 1048576) (h : way ≠ []) (hway : ∀ (i : Nat) c, way[i]? = some c → x.Open c ∧ (0 < i → ∀ e, way[i - 1]? = some e → c ∈ nearZ x e)) : SC Tryz.prog 67 [.ag x.ats, .at (.im 1 (way.map intRow))] [] (.at (.v (.bool true))) [] := by
  refine SC.of_V mixed Tryz.func67 (by kernel_rfl) rfl Tryz.results67 _ Tryz.ntmps67 (by simp) ?_
  simp -implicitDefEqProofs only [go_sem]
  refine T.loopW mixed [1, 2, 7, 8, 9] (fun mm vs es => ∃ (i : Nat), vs = [.at (.im 1 (way.map intRow)), .at (.bx 100 0 0), .at (.im 1 (way.map intRow)), .at (.v (.int .i64 way.length)), .at (.v (.int .i64 (i : Nat)))] ∧ es = [.box 0 x.ats] ∧ mm + i = way.length) way.length ?_ ?_
  · simp -implicitDefEqProofs only [go_sem]
    exact ⟨0, rfl, by omega⟩
  rintro q _ _ ⟨i, rfl, rfl, hn⟩
  simp -implicitDefEqProofs only [go_sem]
  refine ⟨fun hlt => ⟨by omega, fun c hcc => ?_⟩, fun hlt => ?_⟩
  · refine ⟨some [], by decide +kernel, ?_⟩
    simp -implicitDefEqProofs only [go_sem]
    refine callXQ [] (impl_IsOpen x c hx) (by simp -implicitDefEqProofs only [go_sem]) ?_
    simp -implicitDefEqProofs only [go_sem]
    refine ⟨fun ho => ⟨fun h0 => ?_, fun _ => ⟨q - 1, by omega, i + 1, wrapS (by omega) (by omega) (by omega), by omega⟩⟩, fun ho => ho (hway i c hcc).1⟩
    rw [wrap64 (by omega) (by omega), show ((i : Int) - 1).toNat = i - 1 by omega]
    refine ⟨by omega, fun e he => ?_⟩
    have hin := (hway i c hcc).2 (by omega) e he
    have h4 := nearZ_len4 (x := x) (n := e)
    refine callXQ [] (impl_NearZ x e hx) (by simp -implicitDefEqProofs only [go_sem]) ?_
    simp -implicitDefEqProofs only [go_sem]
    refine callXQ [1448] (impl_has (nearZ x e) c (by omega)) (by simp -implicitDefEqProofs only [go_sem]) ?_
    simp -implicitDefEqProofs only [go_sem]
    exact ⟨fun hno => hno hin, fun _ => ⟨q - 1, by omega, i + 1, wrapS (by omega) (by omega) (by omega), by omega⟩⟩
  · have := List.length_pos_iff.2 h
    omega
noncomputable def safeWayP (x : DLand) (base : Int) (r : DRule) (l : List DDepot) (p : DParty) (way : List Int) : Prop := backP x base r l p ∧ 0 < way.length ∧ way.getD 0 0 = p.at_ ∧ (alongZ x base r l p (way.drop 1) : Int) = way.length - 1
noncomputable instance (x : DLand) (base : Int) (r : DRule) (l : List DDepot) (p : DParty) (way : List Int) : Decidable (safeWayP x base r l p way) := Classical.propDecidable _
theorem impl_IsSafeWay (x : DLand) (base : Int) (r : DRule) (l : List DDepot) (p : DParty) (way : List Int) (hx : x.cells.length ≤ 1048576) (hl : l.length ≤ 1048576) (hc : p.crew.length ≤ 1048576) (hp : p.past.length ≤ 1048576) (hw : way.length ≤ 1048576) :
    SC Tryz.prog 66 [.ag x.ats, .at (.v (.int .i64 base)), .ag r.ats, .at (.im 2 (l.map DDepot.row)), .ag p.ats, .at (.im 1 (way.map intRow))] [] (.at (.v (.bool (decide (safeWayP x base r l p way))))) [] := by
  refine SC.of_V mixed Tryz.func66 (by kernel_rfl) rfl Tryz.results66 _ Tryz.ntmps66 (by simp) ?_
  simp -implicitDefEqProofs only [go_sem]
  refine ⟨some [], by decide +kernel, ?_⟩
  simp -implicitDefEqProofs only [go_sem]
  refine callXQ [] (impl_CanReturn x base r l p hx hl hc) (by simp -implicitDefEqProofs only [go_sem]) ?_
  simp -implicitDefEqProofs only [go_sem]
  refine ⟨fun hb => ?_, fun hb => dec_f fun h => hb h.1⟩
  refine ⟨fun h1 => ⟨h1, fun a ha => ⟨fun ea => ?_, fun ea => dec_f fun h => ea ?_⟩⟩, fun h1 => dec_f fun h => h1 (by have := h.2.1; omega)⟩
  · refine callXQ [] (impl_stepsAlong x base r l p way hx hl hc hp hw) (by simp -implicitDefEqProofs only [go_sem]) ?_
    simp -implicitDefEqProofs only [go_sem]
    rw [wrap64 (by omega) (by omega)]
    have hd : way.getD 0 0 = p.at_ := by
      rw [← ea, List.getD_eq_getElem?_getD]
      change way[0]? = some a at ha
      rw [ha]; rfl
    exact decide_eq_decide.2 ⟨fun h => ⟨hb, by omega, hd, h⟩, fun h => h.2.2.2⟩
  · rw [← h.2.2.1, List.getD_eq_getElem?_getD]
    change way[0]? = some a at ha
    rw [ha]; rfl
end Go.Abs
