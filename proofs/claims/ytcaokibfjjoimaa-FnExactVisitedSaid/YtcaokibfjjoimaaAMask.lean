/- What has gone before, counted by bits. -/
import Derived.Test.YtcaokibfjjoimaaACode
namespace Go.Abs
open Go.RowKit
set_option linter.unusedVariables false
set_option linter.unusedSimpArgs false

def maskE (ms : List Nat) (e : Edge) (acc : Nat) : Nat := if Region.binds .any e = true ∧ e.on < ms.length then acc ||| (1 <<< e.on ||| ms.getD e.on 0) else acc
def maskO (ms : List Nat) (o : Oper) : Nat := o.after.toList.foldr (maskE ms) 0
def masksF : List Oper → List Nat → List Nat
  | [], ms => ms
  | o :: L, ms => masksF L (ms ++ [maskO ms o])
def masks (ops : Array Oper) : List Nat := masksF ops.toList []

theorem reach_mono {ops : Array Oper} : ∀ {n j i : Nat}, reach ops n j i = true → reach ops (n + 1) j i = true := by
  intro n
  induction n with
  | zero => intro j i h; cases h
  | succ n ih =>
    intro j i h
    rw [reach] at h ⊢
    cases ho : ops[i]? with
    | none => rw [ho] at h; cases h
    | some o =>
      rw [ho] at h
      simp only [Bool.or_eq_true, Array.any_eq_true', Bool.and_eq_true] at h ⊢
      rcases h with h | ⟨e, he, hb, hr⟩
      · exact .inl h
      · exact .inr ⟨e, he, hb, ih hr⟩
theorem reach_le {ops : Array Oper} {n k j i : Nat} (h : reach ops n j i = true) (hk : n ≤ k) : reach ops k j i = true := by
  obtain ⟨d, rfl⟩ : ∃ d, k = n + d := ⟨k - n, by omega⟩
  clear hk
  induction d with
  | zero => exact h
  | succ d ih => exact reach_mono ih

def GoodM (ops : Array Oper) (ms : List Nat) : Prop := ∀ (i m : Nat), ms[i]? = some m → ∀ j, m.testBit j = true → reach ops (i + 1) j i = true

theorem maskO_bit {ms : List Nat} {es : List Edge} {j : Nat} (h : (es.foldr (maskE ms) 0).testBit j = true) :
    ∃ e ∈ es, Region.binds .any e = true ∧ e.on < ms.length ∧ (e.on = j ∨ (ms.getD e.on 0).testBit j = true) := by
  induction es with
  | nil => simp at h
  | cons e es ih =>
    simp only [List.foldr_cons, maskE] at h
    split at h
    · rename_i hc
      rw [Nat.testBit_or, Nat.testBit_or, Bool.or_eq_true, Bool.or_eq_true] at h
      rcases h with h | h | h
      · obtain ⟨e', h1, h2⟩ := ih h
        exact ⟨e', by simp [h1], h2⟩
      · refine ⟨e, by simp, hc.1, hc.2, .inl ?_⟩
        rw [Nat.one_shiftLeft, Nat.testBit_two_pow] at h
        simpa using h
      · exact ⟨e, by simp, hc.1, hc.2, .inr h⟩
    · obtain ⟨e', h1, h2⟩ := ih h
      exact ⟨e', by simp [h1], h2⟩

theorem masks_good {ops : Array Oper} : ∀ (L : List Oper) (ms : List Nat), ops.toList.drop ms.length = L → GoodM ops ms → GoodM ops (masksF L ms) := by
  intro L
  induction L with
  | nil => intro ms _ h; exact h
  | cons o L ih =>
    intro ms hL h
    have ho : ops[ms.length]? = some o := by
      have := congrArg (·[0]?) hL
      simpa using this
    refine ih _ (by rw [List.length_append]; simp only [List.length_cons, List.length_nil, Nat.zero_add]; rw [← List.drop_drop, hL]; rfl) ?_
    intro i m hi j hj
    by_cases hlt : i < ms.length
    · rw [List.getElem?_append_left hlt] at hi
      exact h i m hi j hj
    · have hie : i = ms.length := by
        have := (List.getElem?_eq_some_iff.1 hi).1
        simp at this; omega
      subst hie
      rw [List.getElem?_append_right (Nat.le_refl _), Nat.sub_self] at hi
      simp only [List.getElem?_cons_zero, Option.some.injEq] at hi
      subst hi
      obtain ⟨e, he, hb, hon, hor⟩ := maskO_bit hj
      rw [reach, ho]
      simp only [Bool.or_eq_true, Array.any_eq_true', Bool.and_eq_true, beq_iff_eq]
      rcases hor with rfl | hor
      · exact .inl ⟨e, by simpa using he, hb, rfl⟩
      · refine .inr ⟨e, by simpa using he, hb, ?_⟩
        have hg : ms[e.on]? = some (ms.getD e.on 0) := by rw [List.getD_eq_getElem?_getD, List.getElem?_eq_getElem hon]; rfl
        exact reach_le (h e.on _ hg j hor) (by omega)

def anyB (quiet : Bool) (ops : Array Oper) : Bool :=
  (List.range ops.size).all fun i =>
    match ops[i]? with
    | none => true
    | some oi => oi.after.all (fun e => !Region.binds .any e || decide (e.on < i)) && (List.range i).all fun j =>
        ((masks ops).getD i 0).testBit j || match ops[j]? with | none => true | some oj => pairOk quiet ops oj oi

theorem anyB_Ok {quiet : Bool} {ops : Array Oper} (h : anyB quiet ops = true) : anyOk quiet (ops.size + 1) ops = true := by
  have hgood : GoodM ops (masks ops) := masks_good ops.toList [] rfl (by intro i m hi; simp at hi)
  unfold anyB at h
  unfold anyOk
  rw [List.all_eq_true] at h ⊢
  intro i hi
  have h1 := h i hi
  cases ho : ops[i]? with
  | none => rfl
  | some oi =>
    rw [ho] at h1
    simp only [Bool.and_eq_true] at h1 ⊢
    refine ⟨h1.1, ?_⟩
    have h2 := h1.2
    rw [List.all_eq_true] at h2 ⊢
    intro j hj
    have h3 := h2 j hj
    rw [Bool.or_eq_true] at h3 ⊢
    rcases h3 with h3 | h3
    · left
      have hlt : i < (masks ops).length := by
        refine Decidable.byContradiction fun hn => ?_
        rw [List.getD_eq_getElem?_getD, List.getElem?_eq_none (by omega)] at h3
        simp at h3
      have hg : (masks ops)[i]? = some ((masks ops).getD i 0) := by rw [List.getD_eq_getElem?_getD, List.getElem?_eq_getElem hlt]; rfl
      have : i < ops.size := by simpa using hi
      exact reach_le (hgood i _ hg j h3) (by omega)
    · exact .inr h3
end Go.Abs
