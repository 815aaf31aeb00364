/- What one operation does: new memory, and stores into memory of the call's own. -/
import Derived.Test.YtfkciaogihemiaaAAddr
namespace Go.Abs
open Go.RowKit
set_option linter.unusedVariables false
set_option linter.unusedSimpArgs false

section
variable {g : G} {F F' : Nat → Prop} {lam lam' : Lam} {m m' : Mem} {w w' : World}

theorem EntRel.block {k : Nat} {e : Ent} (h : EntRel g w F m lam k e) (hl : e.live) {b o : Nat} (hk : lam k = some (b, o)) (hne : ∀ ver sz, e ≠ .arr ver sz []) : ¬ F b ∧ b < w.heap.size := by
  cases e with
  | gone => exact hl.elim
  | ice ver sz rows => exact hl.elim
  | arr ver sz rows =>
    rcases h.2 with ⟨hn, _⟩ | ⟨b', o', cur, ty, hl', hg, hF, _⟩
    · rw [hk] at hn; cases hn
    · rw [hk] at hl'; simp only [Option.some.injEq, Prod.mk.injEq] at hl'; obtain ⟨rfl, rfl⟩ := hl'
      exact ⟨hF, (Array.getElem?_eq_some_iff.1 hg).1⟩
  | box ver cells =>
    obtain ⟨b', cur, ty, hl', hg, hF, _⟩ := h
    rw [hk] at hl'; simp only [Option.some.injEq, Prod.mk.injEq] at hl'; obtain ⟨rfl, rfl⟩ := hl'
    exact ⟨hF, (Array.getElem?_eq_some_iff.1 hg).1⟩

theorem EntRel.block' {k : Nat} {e : Ent} (h : EntRel g w F m lam k e) (hl : e.live) {b o : Nat} (hk : lam k = some (b, o)) : ¬ F b ∧ b < w.heap.size := by
  cases e with
  | gone => exact hl.elim
  | ice ver sz rows => exact hl.elim
  | arr ver sz rows =>
    rcases h.2 with ⟨hn, _⟩ | ⟨b', o', cur, ty, hl', hg, hF, _⟩
    · rw [hk] at hn; cases hn
    · rw [hk] at hl'; simp only [Option.some.injEq, Prod.mk.injEq] at hl'; obtain ⟨rfl, rfl⟩ := hl'
      exact ⟨hF, (Array.getElem?_eq_some_iff.1 hg).1⟩
  | box ver cells =>
    obtain ⟨b', cur, ty, hl', hg, hF, _⟩ := h
    rw [hk] at hl'; simp only [Option.some.injEq, Prod.mk.injEq] at hl'; obtain ⟨rfl, rfl⟩ := hl'
    exact ⟨hF, (Array.getElem?_eq_some_iff.1 hg).1⟩

/-- An entry that is not turned, its block unturned, stands. -/
theorem EntRel.keep (L : Le w w' F F' m m' lam lam') {k : Nat} {e : Ent} (h : EntRel g w F m lam k e) (hl : lam' k = lam k)
    (hb : ∀ b o, e.live → lam k = some (b, o) → w'.heap[b]? = w.heap[b]? ∧ ¬ F' b) : EntRel g w' F' m' lam' k e := by
  cases e with
  | gone => trivial
  | arr ver sz rows =>
    refine ⟨h.1, ?_⟩
    rcases h.2 with ⟨hn, hr⟩ | ⟨b, o, cur, ty, hlk, hg, hF, hh, ho, hc, h1⟩
    · exact .inl ⟨hl.trans hn, hr⟩
    · have := hb b o trivial hlk
      exact .inr ⟨b, o, cur, ty, hl.trans hlk, this.1.trans hg, this.2, hh, ho, hc, h1⟩
  | ice ver sz rows =>
    refine ⟨h.1, ?_⟩
    rcases h.2 with ⟨hn, hr⟩ | ⟨b, o, hlk, hF, hr⟩
    · exact .inl ⟨hl.trans hn, hr⟩
    · exact .inr ⟨b, o, hl.trans hlk, (L.fro b hF).1, hr.keep (L.fro b hF).2⟩
  | box ver cells =>
    obtain ⟨b, cur, ty, hlk, hg, hF, hh, hR⟩ := h
    have := hb b 0 trivial hlk
    exact ⟨b, cur, ty, hl.trans hlk, this.1.trans hg, this.2, hh, hR.mono fun a u h => ⟨RA.le L h.1, h.2⟩⟩

theorem MemRel.turn (h : MemRel g w F m lam) (L : Le w w' F F' m m' lam lam') (κ : Nat) (hm : ∀ k, k ≠ κ → m' k = m k ∧ lam' k = lam k)
    (hb : ∀ k b o, k ≠ κ → (m k).live → lam k = some (b, o) → w'.heap[b]? = w.heap[b]? ∧ ¬ F' b) (he : EntRel g w' F' m' lam' κ (m' κ))
    (hi : ∀ k b o o', k ≠ κ → (m k).live → lam k = some (b, o) → (m' κ).live → lam' κ = some (b, o') → False) : MemRel g w' F' m' lam' where
  ent k := by
    by_cases hk : k = κ
    · subst hk; exact he
    · rw [(hm k hk).1]
      exact (h.ent k).keep L (hm k hk).2 fun b o hl hlk => hb k b o hk hl hlk
  inj k k' b o o' h1 h2 h3 h4 := by
    by_cases hk : k = κ
    · by_cases hk' : k' = κ
      · rw [hk, hk']
      · subst hk
        rw [(hm k' hk').1] at h2
        rw [(hm k' hk').2] at h4
        exact (hi k' b o' o hk' h2 h4 h1 h3).elim
    · by_cases hk' : k' = κ
      · subst hk'
        rw [(hm k hk).1] at h1
        rw [(hm k hk).2] at h3
        exact (hi k b o o' hk h1 h3 h2 h4).elim
      · rw [(hm k hk).1] at h1; rw [(hm k hk).2] at h3
        rw [(hm k' hk').1] at h2; rw [(hm k' hk').2] at h4
        exact h.inj k k' b o o' h1 h2 h3 h4

/-- One block more, at the end; the rest of the world stands. -/
structure Pushed (w w' : World) (o : Obj) : Prop where
  heap : w'.heap = w.heap.push o
  os : w'.os = w.os
  tape : w'.tape = w.tape
  output : w'.output = w.output

theorem Pushed.old {o : Obj} (h : Pushed w w' o) {b : Nat} (hb : b < w.heap.size) : w'.heap[b]? = w.heap[b]? := by
  rw [h.heap, Array.getElem?_push, if_neg (by omega)]
theorem Pushed.new {o : Obj} (h : Pushed w w' o) : w'.heap[w.heap.size]? = some o := by
  rw [h.heap, Array.getElem?_push, if_pos rfl]
theorem Pushed.size {o : Obj} (h : Pushed w w' o) : w'.heap.size = w.heap.size + 1 := by rw [h.heap, Array.size_push]
theorem Pushed.alloc (w : World) (o : Obj) : Pushed w (w.alloc o) o := ⟨rfl, rfl, rfl, rfl⟩
theorem Pushed.drew_alloc (w : World) (o : Obj) : Pushed w (w.drew.alloc o) o := ⟨rfl, rfl, rfl, rfl⟩

theorem Pushed.bsize {o : Obj} (h : Pushed w w' o) (b : Nat) : bsize w b ≤ bsize w' b := by
  by_cases hb : b < w.heap.size
  · unfold Abs.bsize; rw [h.old hb]; exact Nat.le_refl _
  · have : w.heap[b]? = none := Array.getElem?_eq_none (by omega)
    unfold Abs.bsize; rw [this]; exact Nat.zero_le _

theorem Chg.pushed {o : Obj} (h : Chg g w) (hp : Pushed w w' o) : Chg g w' where
  os := hp.os.trans h.os
  tape := hp.tape.trans h.tape
  output := hp.output.trans h.output
  size := by have := h.size; rw [hp.size]; omega
  block b hb hx := (hp.old (by have := h.size; omega)).trans (h.block b hb hx)
  bs b := Nat.le_trans (h.bs b) (hp.bsize b)

theorem Nx.new {σ : St} {a : Act} (hI : Inv g F lam σ a w) {κ : Nat} (hg : σ.m κ = .gone) (hnx : g.nx ≤ κ) {cs : Array Value} {ty : TypeId} {e : Ent} (hp : Pushed w w' (.cells cs ty))
    (he : ∀ L : Le w w' F F σ.m (upd σ.m κ e) lam (upd lam κ (some (w.heap.size, 0))), EntRel g w' F (upd σ.m κ e) (upd lam κ (some (w.heap.size, 0))) κ e) :
    Nx g F lam σ.m w F (upd lam κ (some (w.heap.size, 0))) (upd σ.m κ e) w' := by
  have L : Le w w' F F σ.m (upd σ.m κ e) lam (upd lam κ (some (w.heap.size, 0))) := by
    refine ⟨fun b hb => ⟨hb, hp.old (hI.f3 b hb)⟩, hp.bsize, fun k hk => ?_, fun k hk => ?_, fun k ver sz rows hk _ h => ?_, fun k ver cells hk _ h => ?_⟩
    · have hne : k ≠ κ := fun e => by subst e; exact hk hg
      rw [upd_ne _ _ hne]; exact hk
    · have hne : k ≠ κ := fun e => by subst e; exact hk hg
      rw [upd_ne _ _ hne]; exact Nat.le_refl _
    · have hne : k ≠ κ := fun e => by subst e; exact hk hg
      rw [upd_ne _ _ hne] at h ⊢
      exact ⟨rfl, rows, h, rfl⟩
    · have hne : k ≠ κ := fun e => by subst e; exact hk hg
      rw [upd_ne _ _ hne] at h ⊢
      exact ⟨rfl, cells, h⟩
  refine ⟨L, hI.mem.turn L κ (fun k hne => ⟨upd_ne _ _ hne, upd_ne _ _ hne⟩) ?_ (by rw [upd_same]; exact he L) ?_, hI.f2, fun b hb => by have := hI.f3 b hb; rw [hp.size]; omega, fun k hk' => ?_, hI.chg.pushed hp⟩
  · intro k b o hne hl hlk
    have := (hI.mem.ent k).block' hl hlk
    exact ⟨hp.old this.2, this.1⟩
  · intro k b o o' hne hl hlk _ h2
    have := ((hI.mem.ent k).block' hl hlk).2
    rw [upd_same] at h2
    simp only [Option.some.injEq, Prod.mk.injEq] at h2
    omega
  · have hne : k ≠ κ := by omega
    rw [upd_ne _ _ hne]; exact hI.l0 k hk'

/-- A store into one's own block: the block's cells are turned, not their number. -/
theorem Nx.store {σ : St} {a : Act} (hI : Inv g F lam σ a w) {κ b o : Nat} {cur cur' : Array Value} {ty : TypeId} {e : Ent} (hl : (σ.m κ).live) (hk : lam κ = some (b, o))
    (hg : w.heap[b]? = some (.cells cur ty (0, 0))) (hs : cur'.size = cur.size) (hX : Home g κ b)
    (harr : ∀ ver sz rows, (e = .arr ver sz rows ∨ e = .ice ver sz rows) → ∃ rows', (σ.m κ = .arr ver sz rows' ∨ σ.m κ = .ice ver sz rows') ∧ rows'.length = rows.length)
    (hbox : ∀ ver cells, e = .box ver cells → ∃ cells', σ.m κ = .box ver cells') (hne : e ≠ .gone) (hver : e.ver = (σ.m κ).ver)
    (he : ∀ L : Le w (w.setRow b cur') F F σ.m (upd σ.m κ e) lam lam, EntRel g (w.setRow b cur') F (upd σ.m κ e) lam κ e) :
    Nx g F lam σ.m w F lam (upd σ.m κ e) (w.setRow b cur') := by
  have hb := (hI.mem.ent κ).block' hl hk
  have hnb : ∀ b', F b' → b' ≠ b := fun b' h1 h2 => hb.1 (h2 ▸ h1)
  have L : Le w (w.setRow b cur') F F σ.m (upd σ.m κ e) lam lam := by
    refine ⟨fun b' hb' => ⟨hb', setRow_other w b b' cur' (hnb b' hb')⟩, fun b' => ?_, fun k hk' => ?_, fun k hk' => ?_, fun k ver sz rows hk' _ h => ?_, fun k ver cells hk' _ h => ?_⟩
    · by_cases hbb : b' = b
      · subst hbb; rw [bsize_eq hg, bsize_eq (setRow_heap w b' cur cur' ty _ hg), hs]; exact Nat.le_refl _
      · unfold bsize; rw [setRow_other w b b' cur' hbb]; exact Nat.le_refl _
    · by_cases hkk : k = κ
      · subst hkk; rw [upd_same]; exact hne
      · rw [upd_ne _ _ hkk]; exact hk'
    · by_cases hkk : k = κ
      · subst hkk; rw [upd_same, hver]; exact Nat.le_refl _
      · rw [upd_ne _ _ hkk]; exact Nat.le_refl _
    · refine ⟨rfl, ?_⟩
      by_cases hkk : k = κ
      · subst hkk; rw [upd_same] at h; exact harr ver sz rows h
      · rw [upd_ne _ _ hkk] at h; exact ⟨rows, h, rfl⟩
    · refine ⟨rfl, ?_⟩
      by_cases hkk : k = κ
      · subst hkk; rw [upd_same] at h; exact hbox ver cells h
      · rw [upd_ne _ _ hkk] at h; exact ⟨cells, h⟩
  refine ⟨L, hI.mem.turn L κ (fun k hne => ⟨upd_ne _ _ hne, rfl⟩) ?_ (by rw [upd_same]; exact he L) ?_, hI.f2, fun b' hb' => by rw [size_setRow]; exact hI.f3 b' hb', hI.l0, ?_⟩
  · intro k b' o' hne' hl' hlk
    have := (hI.mem.ent k).block' hl' hlk
    refine ⟨setRow_other w b b' cur' fun e => ?_, this.1⟩
    subst e
    exact hne' (hI.mem.inj k κ b' o' o hl' hl hlk hk)
  · intro k b' o' o'' hne' hl' hlk _ h2
    rw [hk] at h2
    simp only [Option.some.injEq, Prod.mk.injEq] at h2
    obtain ⟨rfl, rfl⟩ := h2
    exact hne' (hI.mem.inj k κ b o' o hl' hl hlk hk)
  · refine ⟨hI.chg.os, hI.chg.tape, hI.chg.output, by rw [size_setRow]; exact hI.chg.size, fun b' hb' hx => ?_, fun b' => Nat.le_trans (hI.chg.bs b') (L.siz b')⟩
    rw [setRow_other w b b' cur' ?_]
    · exact hI.chg.block b' hb' hx
    · rintro rfl
      by_cases hkn : κ < g.nx
      · exact hx (hX.1 hkn)
      · have := hX.2 (by omega); omega

end
end Go.Abs
