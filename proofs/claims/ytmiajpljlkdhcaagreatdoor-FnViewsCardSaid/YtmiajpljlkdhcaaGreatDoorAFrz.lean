/- What a call that was handed memory gives may be taken as not written any more. -/
import Derived.Test.YtmiajpljlkdhcaaGreatDoorACur
namespace Go.Abs
open Go.RowKit Go.Proofs
set_option linter.unusedVariables false
set_option linter.unusedSimpArgs false

theorem SC.frozenX {P : Program} {f : FuncId} {args : List AV} {res : AV} {ext ext' : List Ent} (h : SC P f args ext res ext') (hx : ext.length ≤ 900) (hpl : ∀ e ∈ ext', e.plain = true) : SC P f args ext (zV res) ext' := by
  refine ⟨h.1, fun w F lam us hF hZ hM hl hv => (h.2 w F lam us hF hZ hM hl hv).mono ?_⟩
  rintro e w' ⟨v, F', lam', rfl, p1, p2, p3, p4, p5, p6, p7⟩
  have hfr : ∀ (j : Nat) e, (freshes res)[j]? = some e → ofM ext.length 1000 ext' (freshes res) (1000 + j) = e := by
    intro j e hj
    rw [ofM_fresh (by omega), List.getD_eq_getElem?_getD, hj]; rfl
  have hent : ∀ (j : Nat) e, (freshes res)[j]? = some e → ∀ b o, lam' (1000 + j) = some (b, o) → w.heap.size ≤ b ∧ b < w'.heap.size := by
    intro j e hj b o hb
    rcases freshes_arr res e (List.mem_of_getElem? hj) with ⟨sz, rows, rfl⟩ | ⟨cs, rfl, _⟩
    · have := p6.ent (1000 + j)
      rw [hfr j _ hj] at this
      rcases this.2 with ⟨h, _⟩ | ⟨b', o', cur, ty, h3, h4, h5, h6, h7⟩
      · rw [hb] at h; cases h
      · rw [hb] at h3; simp only [Option.some.injEq, Prod.mk.injEq] at h3; obtain ⟨rfl, rfl⟩ := h3
        exact ⟨h6.2 (by show ext.length ≤ _; omega), (Array.getElem?_eq_some_iff.1 h4).1⟩
    · have := p6.ent (1000 + j)
      rw [hfr j _ hj] at this
      obtain ⟨b', cur, ty, h3, h4, h5, h6, h7⟩ := this
      rw [hb] at h3; simp only [Option.some.injEq, Prod.mk.injEq] at h3; obtain ⟨rfl, rfl⟩ := h3
      exact ⟨h6.2 (by show ext.length ≤ _; omega), (Array.getElem?_eq_some_iff.1 h4).1⟩
  let F2 : Nat → Prop := fun b => F' b ∨ ∃ j e o, (freshes res)[j]? = some e ∧ lam' (1000 + j) = some (b, o)
  have he : ∀ (j : Nat) e, (freshes res)[j]? = some e → ofM ext.length 1000 ext' (freshes res) (1000 + j) = e ∧ freA lam' F2 (1000 + j) :=
    fun j e hj => ⟨hfr j e hj, fun b o hb => .inr ⟨j, e, o, hj, hb⟩⟩
  have hlive : ∀ (j : Nat) e, (freshes res)[j]? = some e → (ofM ext.length 1000 ext' (freshes res) (1000 + j)).live := by
    intro j e hj
    rw [hfr j e hj]
    rcases freshes_arr res e (List.mem_of_getElem? hj) with ⟨sz, rows, rfl⟩ | ⟨cs, rfl, _⟩ <;> trivial
  have hold : ∀ k b o, k < ext.length → (ofM ext.length 1000 ext' (freshes res) k).live → lam' k = some (b, o) → ¬ F' b → ¬ F2 b := by
    rintro k b o hk hkl hlk hnF (h | ⟨j, e, o', hj, ho⟩)
    · exact hnF h
    · have := p6.inj k (1000 + j) b o o' hkl (hlive j e hj) hlk ho
      omega
  refine ⟨v, F2, lam', rfl, fun b hb => .inl (p1 b hb), ?_, ?_, p4, p5, ?_, ?_⟩
  · rintro b hb (h | ⟨j, e, o, hj, ho⟩)
    · exact p2 b hb h
    · have := (hent j e hj b o ho).1; omega
  · rintro b (h | ⟨j, e, o, hj, ho⟩)
    · exact p3 b h
    · exact (hent j e hj b o ho).2
  · rw [freshes_zV]
    have hg : ∀ k, ¬ k < ext.length → ofM ext.length 1000 ext' [] k = Ent.gone := by
      intro k hk
      simp only [ofM, if_neg hk]
      split <;> simp
    have hs : ∀ k, k < ext.length → ofM ext.length 1000 ext' [] k = ofM ext.length 1000 ext' (freshes res) k := by
      intro k hk
      rw [ofM_ext hk, ofM_ext hk]
    refine ⟨fun k => ?_, fun k k' b o o' h1 h2 h3 h4 => ?_⟩
    · by_cases hk : k < ext.length
      · have he0 := p6.ent k
        rw [← hs k hk] at he0
        have hh : ∀ b o, (ofM ext.length 1000 ext' [] k).live → lam' k = some (b, o) → ¬ F' b → ¬ F2 b := fun b o hl2 => hold k b o hk (by rw [← hs k hk]; exact hl2)
        have hmem : ofM ext.length 1000 ext' [] k = .gone ∨ ofM ext.length 1000 ext' [] k ∈ ext' := by
          rw [ofM_ext hk]
          by_cases hk2 : k < ext'.length
          · right; rw [List.getD_eq_getElem?_getD, List.getElem?_eq_getElem hk2]; exact List.getElem_mem hk2
          · left; rw [List.getD_eq_getElem?_getD, List.getElem?_eq_none (by omega)]; rfl
        have hpk : ofM ext.length 1000 ext' [] k = .gone ∨ (ofM ext.length 1000 ext' [] k).plain = true := hmem.imp id (hpl _)
        generalize ofM ext.length 1000 ext' [] k = en at he0 hh hpk
        cases en with
        | gone => trivial
        | arr ver sz rows =>
          obtain ⟨hw, h0⟩ := he0
          refine ⟨hw, ?_⟩
          rcases h0 with h0 | ⟨b, o, cur, ty, h3, h4, h5, h6, h7⟩
          · exact .inl h0
          · exact .inr ⟨b, o, cur, ty, h3, h4, hh b o trivial h3 h5, h6, h7⟩
        | ice ver sz rows => rcases hpk with h | h <;> simp [Ent.plain] at h
        | box ver cells =>
          obtain ⟨b, cur, ty, h3, h4, h5, h6, h7⟩ := he0
          refine ⟨b, cur, ty, h3, h4, hh b 0 trivial h3 h5, h6, h7.1, fun j A0 u hA hu => ?_⟩
          have hp := h7.2 j A0 u hA hu
          have hpc : cells.all A.plain = true := by rcases hpk with h | h; cases h; exact h
          exact ⟨RA_plain (fun b hb => .inl hb) (List.all_eq_true.1 hpc A0 (List.mem_of_getElem? hA)) hp.1, hp.2⟩
      · rw [hg k hk]; trivial
    · have lt : ∀ k, (ofM ext.length 1000 ext' [] k).live → k < ext.length := fun k hl2 => Decidable.byContradiction fun hk => by rw [hg k hk] at hl2; exact hl2
      have k1 := lt k h1
      have k2 := lt k' h2
      rw [hs k k1] at h1
      rw [hs k' k2] at h2
      exact p6.inj k k' b o o' h1 h2 h3 h4
  · rw [instV_zV]
    cases res with
    | «at» a => exact frozV1 (x := .at a) (fun b hb => .inl hb) p6.ent p7 he
    | ag cs => exact frozV1 (x := .ag cs) (fun b hb => .inl hb) p6.ent p7 he
    | tp xs =>
      obtain ⟨us, h1, h2, h3⟩ := p7
      obtain ⟨h4, h5⟩ := frozT (m2 := ofM ext.length 1000 ext' (freshes (zV (.tp xs)))) (fun b hb => Or.inl hb) p6.ent h2 h3 he
      exact ⟨us, h1, h4, h5⟩
theorem farA_im {s : Nat} {r : List (List Value)} : farA (.im s r) = true := rfl
attribute [go_sem] farA_im
end Go.Abs
