import Derived.Test.YtcaokibfjjoimaaPFnExactEventNamex1
namespace Go.Proofs.Ytcaokibfjjoimaa.Pure
open Go.RowKit Go.Proofs.Ytcaokibfjjoimaa.PFnExactEventName Go.Proofs.YtcaokibfjjoimaaW.PrintWords Go.Proofs.YtcaokibfjjoimaaW.PrintLast

theorem FnExactEventName : laws_FnExactEventName.Pure := by
  intro a0 _
  by_cases h : 1 ≤ a0 ∧ a0 ≤ 6
  · obtain ⟨h1, h2⟩ := h
    have : a0 = 1 ∨ a0 = 2 ∨ a0 = 3 ∨ a0 = 4 ∨ a0 = 5 ∨ a0 = 6 := by omega
    rcases this with rfl | rfl | rfl | rfl | rfl | rfl <;> decide +kernel
  · have hs : spec_l1In.f a0 1 6 = some false := by
      unfold spec_l1In.f
      split
      · simp only [Option.some.injEq, decide_eq_false_iff_not]; omega
      · rfl
    have hi : impl_InRange.f a0 1 6 = some false := by
      unfold impl_InRange.f
      split
      · simp only [Option.some.injEq, decide_eq_false_iff_not]; omega
      · rfl
    simp [laws_FnExactEventName.f, spec_EventName.f, impl_EventName.f, hs, hi]

end Go.Proofs.Ytcaokibfjjoimaa.Pure
