/- A call's results in the caller's frame; a call as one step. -/
import Derived.Test.YtcaokibfjjoimaaABack
namespace Go.Abs
open Go.RowKit
set_option linter.unusedVariables false
set_option linter.unusedSimpArgs false

section
variable {g : G} {F F' : Nat → Prop} {lam lam' : Lam} {σ : St} {a : Act} {w w' : World} {keys bor : List Nat} {fz : Bool} {B : Nat} {ext' fs : List Ent} {res : AV}

theorem RA_back (ho : CallOk g.nx σ.m keys bor fz B) (hb : BackOk σ.m keys bor fz ext' fs res) (hB : keys.length + 1 ≤ B) (p5 : ∀ k, k < keys.length → lam' k = lamC keys lam k) {A0 : A} {u : Value}
    (hp : fz = true ∨ bor = [] ∨ A0.noIm = true) (h : RA w' F' (ofM keys.length 1000 ext' fs) lam' A0 u) (hkb : ∀ j, j < 16 → B + j ∉ keys ∧ B + j ∉ bor) :
    RA w' (backF bor fz lam F') (backM σ.m keys bor fz B ext' fs) (backL lam lam' keys B fs.length) (backA σ.m keys B A0) u := by
  have hF : ∀ b, (fz = true ∨ bor = []) → F' b → backF bor fz lam F' b := by
    intro b hor hb'
    refine ⟨hb', fun hfz k hk => ?_⟩
    rcases hor with h | h
    · rw [h] at hfz; cases hfz
    · rw [h] at hk; cases hk
  cases A0 with
  | v x => exact h
  | fr sz rows => exact h.elim
  | nil => exact h
  | er => exact h
  | dead => trivial
  | bx k ver off => trivial
  | pa k ver sz i off => trivial
  | pi cs => trivial
  | im sz rows =>
    have hor : fz = true ∨ bor = [] := by
      rcases hp with h | h | h
      · exact .inl h
      · exact .inr h
      · cases h
    exact RA_plain (fun b hb => hF b hor hb) rfl h
  | ow k ver sz n =>
    simp only [backA]
    split
    · rename_i hv
      subst hv
      split
      · rename_i hk
        have hgk : keys[k]? = some keys[k] := List.getElem?_eq_getElem hk
        rw [hgk]
        dsimp only
        have hidx := idxOf?_of ho.nd hgk
        have hM : backM σ.m keys bor fz B ext' fs keys[k] = merge (σ.m keys[k]) (ext'.getD k .gone) := by simp only [backM, hidx]
        have hL : backL lam lam' keys B fs.length keys[k] = lam keys[k] := by simp only [backL, hidx]
        have hL' : lam' k = lam keys[k] := by rw [p5 k hk]; simp [lamC, hk]
        obtain ⟨⟨h1, h2⟩, h3, h4⟩ := h
        rw [ofM_ext hk] at h1 h4
        have hlk := hb.like k _ hgk
        generalize ext'.getD k .gone = e2 at h1 h4 hlk hM
        refine ⟨?_, h3, fun s r hm => ?_⟩
        · rw [hM]
          cases hm1 : σ.m keys[k] <;> cases e2 <;> simp [hm1, Ent.like, merge, Ent.ver] at hlk ⊢
        · rw [hM] at hm
          rw [hL, ← hL']
          cases hm1 : σ.m keys[k] <;> cases e2 <;> simp [hm1, Ent.like, merge, Ent.ver] at hlk hm
          obtain ⟨rfl, rfl⟩ := hm
          obtain ⟨h00, h01, _⟩ := hlk
          subst h00; subst h01
          exact h4 _ _ (.inl rfl)
      · split
        · rename_i hk1 hk2
          have hfresh : ofM keys.length 1000 ext' fs k = fs.getD (k - 1000) .gone := by
            have := @ofM_fresh keys.length ext' fs (k - 1000) (Nat.le_trans ho.few (by decide))
            rwa [show 1000 + (k - 1000) = k by omega] at this
          obtain ⟨⟨h1, h2⟩, h3, h4⟩ := h
          rw [hfresh] at h1 h4
          have hlt : k - 1000 < fs.length := by
            refine Decidable.byContradiction fun hge => h1 ?_
            simp only [List.getD, List.getElem?_eq_none (Nat.le_of_not_lt hge), Option.getD_none]
          have hkb' := hkb (k - 1000) (by have := hb.few; omega)
          have hidx : keys.idxOf? (B + (k - 1000)) = none := by
            cases hx : keys.idxOf? (B + (k - 1000)) with
            | none => rfl
            | some i => exact absurd (List.mem_of_getElem? (idxOf?_some hx)) hkb'.1
          have hM : backM σ.m keys bor fz B ext' fs (B + (k - 1000)) = fs.getD (k - 1000) .gone := by
            simp only [backM, hidx]
            rw [if_neg (fun h => hkb'.2 h.2), if_pos (by omega), Nat.add_sub_cancel_left]
          have hL : backL lam lam' keys B fs.length (B + (k - 1000)) = lam' k := by
            simp only [backL, hidx]
            rw [if_pos (by omega), Nat.add_sub_cancel_left, show 1000 + (k - 1000) = k by omega]
          refine ⟨by rw [hM]; exact ⟨h1, Nat.zero_le _⟩, h3, fun s r hm => ?_⟩
          rw [hM] at hm
          rw [hL]
          exact h4 s r hm
        · trivial
    · trivial

end
end Go.Abs
