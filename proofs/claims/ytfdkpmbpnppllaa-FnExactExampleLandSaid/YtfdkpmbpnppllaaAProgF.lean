/- Facts about the whole program, each by computing: what it names stands in an order, so nothing calls itself. -/
import Derived.Test.YtfdkpmbpnppllaaRows
import Derived.JoinedOf
import Derived.KernelRfl
namespace Go.Abs
open Go
theorem closureVia_rank {P : Program} {r : Nat → Nat} {K : Nat} (hr : ∀ (g : Nat) (fn : Func), P.funcs[g]? = some fn → ∀ h ∈ P.leadsTo fn, r h < r g) :
    ∀ (n : Nat) (todo seen : List FuncId), (∀ x ∈ todo, r x ≤ K) → (∀ x ∈ seen, r x ≤ K) → ∀ x ∈ P.closureVia n todo seen, r x ≤ K := by
  intro n
  induction n with
  | zero => intro todo seen h1 h2 x hx; rw [Program.closureVia] at hx; exact h2 x (by simpa using hx)
  | succ n ih =>
    intro todo seen h1 h2 x hx
    cases todo with
    | nil => rw [Program.closureVia] at hx; exact h2 x (by simpa using hx); all_goals simp
    | cons f todo =>
      rw [Program.closureVia] at hx
      split at hx
      · exact ih todo seen (fun y hy => h1 y (by simp [hy])) h2 x hx
      · refine ih _ _ (fun y hy => ?_) (fun y hy => ?_) x hx
        · rcases List.mem_append.1 hy with hy | hy
          · cases hf : P.funcs[f]? with
            | none => rw [hf] at hy; simp at hy
            | some fn =>
              rw [hf] at hy
              have := hr f fn hf y hy
              have := h1 f (by simp)
              omega
          · exact h1 y (by simp [hy])
        · rcases List.mem_cons.1 hy with rfl | hy
          · exact h1 y (by simp)
          · exact h2 y hy
def rankOk (P : Program) (l : List Nat) : Bool := (List.range P.funcs.size).all fun g => ((P.funcs[g]?).elim [] P.leadsTo).all fun h => decide (l.getD h 0 < l.getD g 0)
theorem recurses_rank {P : Program} {f : FuncId} (l : List Nat) (hu : P.unfollowed f = false) (h : rankOk P l = true) : P.recurses f = false := by
  unfold Program.recurses
  rw [hu, Bool.false_or]
  rw [List.any_eq_false]
  intro g _
  rw [Bool.not_eq_true, List.any_eq_false]
  intro h' hh'
  have hr : ∀ (g : Nat) (fn : Func), P.funcs[g]? = some fn → ∀ h ∈ P.leadsTo fn, l.getD h 0 < l.getD g 0 := by
    intro g fn hg h hh
    unfold rankOk at *
    rw [List.all_eq_true] at *
    have hlt : g < P.funcs.size := (Array.getElem?_eq_some_iff.1 hg).1
    have := ‹∀ x ∈ List.range P.funcs.size, _› g (by simpa using hlt)
    rw [hg] at this
    simp only [Option.elim, List.all_eq_true, decide_eq_true_eq] at this
    exact this h hh
  cases hg : P.funcs[g]? with
  | none => rw [hg] at hh'; simp at hh'
  | some fn =>
    rw [hg] at hh'
    have h1 := hr g fn hg h' hh'
    rw [Bool.not_eq_true, List.contains_eq_any_beq, List.any_eq_false]
    intro x hx
    have := closureVia_rank (r := fun k => l.getD k 0) (K := l.getD h' 0) hr _ [h'] [] (by simp) (by simp) x hx
    simp only [beq_iff_eq]
    rintro rfl
    omega
theorem eq_idb {a b : Bool} (h : a = b) : a = b := h
end Go.Abs
namespace Go.Proofs.Ytfdkpmbpnppllaa
open Go Go.Abs
theorem pf_rank : rankOk Try.pinned.checked.prog [0, 0, 1, 5, 0, 4, 1, 1, 1, 3, 0, 0, 0, 2, 0, 0, 0, 1, 0, 0, 0, 0, 0, 0, 0, 0, 0, 0, 0, 0, 0, 0, 0, 0, 0, 0] = true := by kernel_rfl
theorem pf_laid : laidOutB Try.pinned.checked.prog = true := by kernel_rfl
theorem pf_stops : Try.pinned.checked.prog.stops = [] := by kernel_rfl
theorem pf_knobs : Try.pinned.checked.prog.stopKnobs = [] := by kernel_rfl
theorem pf_lifts : Try.pinned.checked.prog.liftsFinal = false := by kernel_rfl
theorem pf_plain : Try.pinned.checked.prog.plainKeys = true := by kernel_rfl
theorem pf_heard : Try.pinned.checked.prog.stopsHeard = true := by kernel_rfl
theorem pf_enter : Try.pinned.checked.prog.mayEnter = true := by kernel_rfl
theorem pf_make : Try.pinned.checked.prog.make = some .cut := by kernel_rfl
end Go.Proofs.Ytfdkpmbpnppllaa
