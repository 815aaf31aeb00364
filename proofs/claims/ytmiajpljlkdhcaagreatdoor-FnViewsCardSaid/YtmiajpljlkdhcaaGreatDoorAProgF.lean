/- Facts about the whole program, each by computing: what it names stands in an order, so nothing calls itself. -/
import Derived.Test.YtmiajpljlkdhcaaGreatDoorRows
import Derived.JoinedOf
import Derived.KernelRfl
namespace Go.Abs
open Go
theorem closureVia_rank {P : Program} {r : Nat → Nat} {K : Nat} (hr : ∀ (g : Nat) (fn : Func), P.funcs[g]? = some fn → ∀ h ∈ P.leadsTo fn, r h < r g) :
    ∀ (n : Nat) (todo seen : List FuncId), (∀ x ∈ todo, r x ≤ K) → (∀ x ∈ seen, r x ≤ K) → ∀ x ∈ P.closureVia n todo seen, r x ≤ K := by
  intro n
  induction n with
  | zero => intro todo seen h1 h2 x hx; rw [Program.closureVia] at hx; exact h2 x (by simpa using hx)
  | succ n ih =>
    intro todo seen h1 h2 x hx
    cases todo with
    | nil => rw [Program.closureVia] at hx; exact h2 x (by simpa using hx); all_goals simp
    | cons f todo =>
      rw [Program.closureVia] at hx
      split at hx
      · exact ih todo seen (fun y hy => h1 y (by simp [hy])) h2 x hx
      · refine ih _ _ (fun y hy => ?_) (fun y hy => ?_) x hx
        · rcases List.mem_append.1 hy with hy | hy
          · cases hf : P.funcs[f]? with
            | none => rw [hf] at hy; simp at hy
            | some fn =>
              rw [hf] at hy
              have := hr f fn hf y hy
              have := h1 f (by simp)
              omega
          · exact h1 y (by simp [hy])
        · rcases List.mem_cons.1 hy with rfl | hy
          · exact h1 y (by simp)
          · exact h2 y hy
def rankOk (P : Program) (l : List Nat) : Bool := (List.range P.funcs.size).all fun g => ((P.funcs[g]?).elim [] P.leadsTo).all fun h => decide (l.getD h 0 < l.getD g 0)
theorem recurses_rank {P : Program} {f : FuncId} (l : List Nat) (hu : P.unfollowed f = false) (h : rankOk P l = true) : P.recurses f = false := by
  unfold Program.recurses
  rw [hu, Bool.false_or]
  rw [List.any_eq_false]
  intro g _
  rw [Bool.not_eq_true, List.any_eq_false]
  intro h' hh'
  have hr : ∀ (g : Nat) (fn : Func), P.funcs[g]? = some fn → ∀ h ∈ P.leadsTo fn, l.getD h 0 < l.getD g 0 := by
    intro g fn hg h hh
    unfold rankOk at *
    rw [List.all_eq_true] at *
    have hlt : g < P.funcs.size := (Array.getElem?_eq_some_iff.1 hg).1
    have := ‹∀ x ∈ List.range P.funcs.size, _› g (by simpa using hlt)
    rw [hg] at this
    simp only [Option.elim, List.all_eq_true, decide_eq_true_eq] at this
    exact this h hh
  cases hg : P.funcs[g]? with
  | none => rw [hg] at hh'; simp at hh'
  | some fn =>
    rw [hg] at hh'
    have h1 := hr g fn hg h' hh'
    rw [Bool.not_eq_true, List.contains_eq_any_beq, List.any_eq_false]
    intro x hx
    have := closureVia_rank (r := fun k => l.getD k 0) (K := l.getD h' 0) hr _ [h'] [] (by simp) (by simp) x hx
    simp only [beq_iff_eq]
    rintro rfl
    omega
theorem eq_idb {a b : Bool} (h : a = b) : a = b := h
end Go.Abs
namespace Go.Proofs.YtmiajpljlkdhcaaGreatDoor
open Go Go.Abs
theorem pf_rank : rankOk Tryz.pinned.checked.prog [0, 0, 1, 16, 0, 9, 9, 15, 9, 8, 14, 8, 7, 9, 8, 8, 6, 4, 14, 0, 13, 7, 0, 7, 7, 5, 3, 13, 13, 2, 6, 12, 6, 5, 1, 4, 6, 3, 2, 3, 4, 2, 2, 0, 11, 4, 1, 4, 12, 5, 5, 4, 1, 0, 0, 3, 5, 2, 0, 3, 1, 1, 10, 2, 2, 3, 0, 3, 11, 11, 11, 11, 11, 11, 3, 4, 3, 4, 0, 0, 0, 1, 0, 1, 0, 2, 0, 0, 9, 2, 3, 0, 10, 10, 6, 10, 8, 9, 8, 2, 1, 0, 0, 0, 0, 1, 8, 2, 1, 2, 9, 2, 4, 2, 9, 7, 4, 5, 3, 1, 8, 1, 0, 0, 1, 0, 0, 0, 1, 8, 6, 4, 0, 0, 0, 0, 0, 0, 0, 0, 0, 0, 0, 0, 0, 0, 0, 0, 0, 0, 0, 0, 0, 0, 0, 0, 0, 0] = true := by kernel_rfl
theorem pf_laid : laidOutB Tryz.pinned.checked.prog = true := by kernel_rfl
theorem pf_stops : Tryz.pinned.checked.prog.stops = [] := by kernel_rfl
theorem pf_knobs : Tryz.pinned.checked.prog.stopKnobs = [] := by kernel_rfl
theorem pf_lifts : Tryz.pinned.checked.prog.liftsFinal = false := by kernel_rfl
theorem pf_plain : Tryz.pinned.checked.prog.plainKeys = true := by kernel_rfl
theorem pf_heard : Tryz.pinned.checked.prog.stopsHeard = true := by kernel_rfl
theorem pf_enter : Tryz.pinned.checked.prog.mayEnter = true := by kernel_rfl
theorem pf_make : Tryz.pinned.checked.prog.make = some .cut := by kernel_rfl
end Go.Proofs.YtmiajpljlkdhcaaGreatDoor
