/- What a call leaves in the caller's frame. -/
import Derived.Test.YtcaokibfjjoimaaACall
namespace Go.Abs
open Go.RowKit
set_option linter.unusedVariables false
set_option linter.unusedSimpArgs false

/-- What was handed over, as it comes back. -/
def merge : Ent → Ent → Ent
  | .arr ver sz _, .arr _ _ rows => .arr ver sz rows
  | .box ver _, .box _ cells => .box ver cells
  | e, _ => e
def iceOf : Ent → Ent
  | .arr ver sz rows => .ice ver sz rows
  | e => e
/-- The same kind, the same size. -/
def Ent.like : Ent → Ent → Bool
  | .arr _ sz rows, .arr ver' sz' rows' => ver' == 0 && (sz == sz' && rows.length == rows'.length)
  | .box _ _, .box _ cells => cells.all A.plain
  | _, _ => false

def backM (m : Mem) (keys bor : List Nat) (fz : Bool) (B : Nat) (ext' fs : List Ent) : Mem := fun k =>
  match keys.idxOf? k with
  | some i => merge (m k) (ext'.getD i .gone)
  | none => if fz = true ∧ k ∈ bor then iceOf (m k) else if B ≤ k ∧ k < B + fs.length then fs.getD (k - B) .gone else m k
def backL (lam lam' : Lam) (keys : List Nat) (B n : Nat) : Lam := fun k =>
  match keys.idxOf? k with
  | some _ => lam k
  | none => if B ≤ k ∧ k < B + n then lam' (1000 + (k - B)) else lam k
def backF (bor : List Nat) (fz : Bool) (lam : Lam) (F' : Nat → Prop) : Nat → Prop := fun b => F' b ∧ (fz = false → ∀ k ∈ bor, ∀ o, lam k ≠ some (b, o))

def backA (m : Mem) (keys : List Nat) (B : Nat) : A → A
  | .ow k ver sz n =>
    if ver = 0 then
      if k < keys.length then (match keys[k]? with | some k' => .ow k' (m k').ver sz n | none => .dead)
      else if 1000 ≤ k then .ow (B + (k - 1000)) 0 sz n else .dead
    else .dead
  | .bx .. => .dead
  | .pa .. => .dead
  | .pi _ => .dead
  | .fr _ _ => .dead
  | a => a
def backV1 (m : Mem) (keys : List Nat) (B : Nat) : AV → AV
  | .at a => .at (backA m keys B a)
  | .ag cs => .ag (cs.map (backA m keys B))
  | .tp xs => .at .dead
def backV (m : Mem) (keys : List Nat) (B : Nat) : AV → AV
  | .tp xs => .tp (xs.map (backV1 m keys B))
  | x => backV1 m keys B x

/-- The conditions at a call's end. -/
structure BackOk (m : Mem) (keys bor : List Nat) (fz : Bool) (ext' fs : List Ent) (res : AV) : Prop where
  len : ext'.length = keys.length
  like : ∀ i k, keys[i]? = some k → (m k).like (ext'.getD i .gone) = true
  few : fs.length ≤ 16
  im : fz = true ∨ bor = [] ∨ (res.noIm = true ∧ ∀ e ∈ ext', e.noIm = true)

theorem idxOf?_of {ks : List Nat} {i k : Nat} (hnd : ks.Nodup) (h : ks[i]? = some k) : ks.idxOf? k = some i := by
  induction ks generalizing i with
  | nil => simp at h
  | cons x ks ih =>
    rw [List.nodup_cons] at hnd
    cases i with
    | zero => simp at h; subst h; simp [List.idxOf?_cons]
    | succ i =>
      have h' : ks[i]? = some k := by simpa using h
      have hne : x ≠ k := by rintro rfl; exact hnd.1 (List.mem_of_getElem? h')
      have hne' : (x == k) = false := by simpa using hne
      simp [List.idxOf?_cons, hne', ih hnd.2 h']

theorem idxOf?_none {ks : List Nat} {k : Nat} (h : ks.idxOf? k = none) : k ∉ ks := by
  intro hm
  induction ks with
  | nil => cases hm
  | cons x ks ih =>
    rw [List.idxOf?_cons] at h
    split at h
    · cases h
    · rename_i hx
      cases hi : ks.idxOf? k with
      | some j => simp [hi] at h
      | none =>
        rcases List.mem_cons.1 hm with rfl | hm
        · simp at hx
        · exact ih hi hm

section
variable {g : G} {F F' : Nat → Prop} {lam lam' : Lam} {σ : St} {a : Act} {w w' : World} {keys bor : List Nat} {fz : Bool} {B : Nat} {ext' fs : List Ent} {res : AV}

theorem freshes_arr (res : AV) : ∀ e ∈ freshes res, ∃ sz rows, e = .arr 0 sz rows := by
  have hA : ∀ a : A, ∀ e ∈ freshA a, ∃ sz rows, e = .arr 0 sz rows := by
    intro a e he
    cases a <;> simp [freshA] at he
    exact ⟨_, _, he⟩
  have h1 : ∀ x : AV, ∀ e ∈ fresh1 x, ∃ sz rows, e = .arr 0 sz rows := by
    intro x e he
    cases x with
    | «at» a => exact hA a e he
    | ag cs => simp only [fresh1, List.mem_flatMap] at he; obtain ⟨a, _, he⟩ := he; exact hA a e he
    | tp xs => simp [fresh1] at he
  intro e he
  cases res with
  | «at» a => exact h1 (.at a) e he
  | ag cs => exact h1 (.ag cs) e he
  | tp xs => simp only [freshes, List.mem_flatMap] at he; obtain ⟨x, _, he⟩ := he; exact h1 x e he

theorem call_back (hI : Inv g F lam σ a w) (ho : CallOk g.nx σ.m keys bor fz B) (hb : BackOk σ.m keys bor fz ext' fs res) (hfs : ∀ e ∈ fs, ∃ sz rows, e = Ent.arr 0 sz rows)
    (p1 : ∀ b, FC bor lam F b → F' b) (p2 : ∀ b, b < w.heap.size → F' b → FC bor lam F b) (p3 : ∀ b, F' b → b < w'.heap.size)
    (p4 : Chg (gOf g.P w (FC bor lam F) (lamC keys lam) keys.length 0) w') (p5 : ∀ k, k < keys.length → lam' k = lamC keys lam k)
    (p6 : MemRel (gOf g.P w (FC bor lam F) (lamC keys lam) keys.length 0) w' F' (ofM keys.length 1000 ext' fs) lam') :
    Nx g F lam σ.m w (backF bor fz lam F') (backL lam lam' keys B fs.length) (backM σ.m keys bor fz B ext' fs) w' := by
  have hsite : ∀ k, B ≤ k → k < B + fs.length → σ.m k = .gone ∧ g.nx ≤ k := by
    intro k h1 h2
    have := ho.site (k - B) (by have := hb.few; omega)
    rw [show B + (k - B) = k by omega] at this
    exact ⟨this, by have := ho.base; omega⟩
  have hkl : ∀ k ∈ keys, (σ.m k).live := fun k hk => plain_live (ho.key k hk)
  have hX : ∀ k b o, (σ.m k).live → lam k = some (b, o) → k ∉ keys → ¬ (gOf g.P w (FC bor lam F) (lamC keys lam) keys.length 0).X b := by
    rintro k b o hl hlk hk ⟨i, o', hi, hli⟩
    obtain ⟨hlt, hki⟩ : ∃ h : i < keys.length, True := ⟨hi, trivial⟩
    have : lam keys[i] = some (b, o') := by simpa [lamC, hi] using hli
    have := hI.mem.inj _ _ _ _ _ hl (hkl _ (List.getElem_mem hi)) hlk this
    subst this
    exact hk (List.getElem_mem hi)
  have hXF : ∀ b, F b → ¬ (gOf g.P w (FC bor lam F) (lamC keys lam) keys.length 0).X b := by
    rintro b hF ⟨i, o', hi, hli⟩
    have hl : lam keys[i] = some (b, o') := by
      have hi' : i < keys.length := hi
      simpa [lamC, hi'] using hli
    exact ((hI.mem.ent _).block' (hkl _ (List.getElem_mem hi)) hl).1 hF
  have hsame : ∀ k b o, (σ.m k).live → lam k = some (b, o) → k ∉ keys → w'.heap[b]? = w.heap[b]? := by
    intro k b o hl hlk hk
    exact p4.block b ((hI.mem.ent k).block' hl hlk).2 (hX k b o hl hlk hk)
  have hFF : ∀ b, F b → backF bor fz lam F' b := by
    intro b hF
    refine ⟨p1 b (.inl hF), fun _ k hk o hlk => ?_⟩
    obtain ⟨⟨v, s, r, hm⟩, _⟩ := ho.bor k hk
    exact ((hI.mem.ent k).block' (by rw [hm]; trivial) hlk).1 hF
  have hmk : ∀ k, k ∉ keys → keys.idxOf? k = none := by
    intro k hk
    cases h : keys.idxOf? k with
    | none => rfl
    | some i => exact absurd (List.mem_of_getElem? (idxOf?_some h)) hk
  have L : Le w w' F (backF bor fz lam F') σ.m (backM σ.m keys bor fz B ext' fs) lam (backL lam lam' keys B fs.length) := by
    refine ⟨fun b hF => ⟨hFF b hF, p4.block b (hI.f3 b hF) (hXF b hF)⟩, p4.bs, fun k hk => ?_, fun k hk => ?_, fun k v s r hk hv h => ?_, fun k v cs hk hv h => ?_⟩
    · unfold backM
      split
      · rename_i i hi
        have := hb.like i k (idxOf?_some hi)
        generalize ext'.getD i .gone = e2 at this ⊢
        cases h1 : σ.m k <;> cases e2 <;> simp [h1, Ent.like, merge] at this ⊢
      · split
        · cases h1 : σ.m k <;> simp [iceOf]
          exact hk h1
        · split
          · rename_i h1 h2 h3; exact absurd (hsite k h3.1 h3.2).1 hk
          · exact hk
    · unfold backM
      split
      · rename_i i hi
        have := hb.like i k (idxOf?_some hi)
        generalize ext'.getD i .gone = e2 at this ⊢
        cases h1 : σ.m k <;> cases e2 <;> simp [h1, Ent.like, merge, Ent.ver] at this ⊢
      · split
        · cases h1 : σ.m k <;> simp [iceOf, Ent.ver]
        · split
          · rename_i h1 h2 h3; exact absurd (hsite k h3.1 h3.2).1 hk
          · exact Nat.le_refl _
    · unfold backM at h
      unfold backL
      split at h
      · rename_i i hi
        try rw [hi]
        refine ⟨rfl, ?_⟩
        have := hb.like i k (idxOf?_some hi)
        generalize ext'.getD i .gone = e2 at this h
        cases h1 : σ.m k <;> cases e2 <;> simp [h1, Ent.like, merge] at this h ⊢
        obtain ⟨rfl, rfl, rfl⟩ := h
        exact ⟨_, ⟨rfl, rfl, rfl⟩, this.2.2⟩
      · rename_i hi
        try rw [hi]
        split at h
        · rename_i hc
          obtain ⟨⟨v', s', r', hm⟩, _⟩ := ho.bor k hc.2
          have hnb : ¬ (B ≤ k ∧ k < B + fs.length) := fun hh => by rw [(hsite k hh.1 hh.2).1] at hm; cases hm
          rw [if_neg hnb]
          rw [hm] at h
          simp only [iceOf, reduceCtorEq, Ent.ice.injEq, false_or] at h
          obtain ⟨rfl, rfl, rfl⟩ := h
          exact ⟨rfl, _, .inl hm, rfl⟩
        · split at h
          · rename_i h2 h3; exact absurd (hsite k h3.1 h3.2).1 hk
          · rename_i h2 h3; rw [if_neg h3]; exact ⟨rfl, r, h, rfl⟩
    · unfold backM at h
      unfold backL
      split at h
      · rename_i i hi
        try rw [hi]
        refine ⟨rfl, ?_⟩
        have := hb.like i k (idxOf?_some hi)
        generalize ext'.getD i .gone = e2 at this h
        cases h1 : σ.m k <;> cases e2 <;> simp [h1, Ent.like, merge] at this h ⊢
        exact h.1
      · rename_i hi
        try rw [hi]
        split at h
        · rename_i hc
          obtain ⟨⟨v', s', r', hm⟩, _⟩ := ho.bor k hc.2
          rw [hm] at h; cases h
        · split at h
          · rename_i h2 h3; exact absurd (hsite k h3.1 h3.2).1 hk
          · rename_i h2 h3; rw [if_neg h3]; exact ⟨rfl, cs, h⟩
  refine ⟨L, ⟨fun k => ?_, fun k k' b o o' h1 h2 h3 h4 => ?_⟩, fun b hlt hF => ?_, fun b hF => p3 b hF.1, fun k hk => ?_, ?_⟩
  · -- entries
    by_cases hkey : k ∈ keys
    · obtain ⟨i, hi⟩ := List.mem_iff_getElem?.1 hkey
      have hidx := idxOf?_of ho.nd hi
      have hlt := (List.getElem?_eq_some_iff.1 hi).1
      have hM : backM σ.m keys bor fz B ext' fs k = merge (σ.m k) (ext'.getD i .gone) := by simp [backM, hidx]
      have hL : backL lam lam' keys B fs.length k = lam k := by simp [backL, hidx]
      have hL' : lam' i = lam k := by rw [p5 i hlt]; simp [lamC, hi]
      have he := p6.ent i
      rw [ofM_ext hlt] at he
      have hold := hI.mem.ent k
      have hlk := hb.like i k hi
      rw [hM]
      cases h1 : σ.m k <;> cases h2 : ext'.getD i .gone <;> rw [h1, h2] at hlk <;> simp only [Ent.like, Bool.false_eq_true] at hlk <;> rw [h2] at he <;> rw [h1] at hold
      · rename_i ver sz rows ver' sz' rows'
        simp only [Bool.and_eq_true, beq_iff_eq] at hlk
        obtain ⟨_, rfl, hln⟩ := hlk
        obtain ⟨hw, he⟩ := he
        simp only [merge]
        refine ⟨hw, ?_⟩
        rcases he with ⟨h, hr⟩ | ⟨b, o, cur, ty, h3, h4, h5, h6, h7⟩
        · exact .inl ⟨by rw [hL, ← hL']; exact h, hr⟩
        · refine .inr ⟨b, o, cur, ty, by rw [hL, ← hL']; exact h3, h4, fun h => h5 h.1, ?_, h7⟩
          rcases hold.2 with ⟨h, _⟩ | ⟨b', o', cur', ty', h8, _, _, h9, _⟩
          · rw [← hL', h3] at h; cases h
          · rw [← hL', h3] at h8; simp only [Option.some.injEq, Prod.mk.injEq] at h8; obtain ⟨rfl, rfl⟩ := h8; exact h9
      · rename_i ver cells ver' cells'
        obtain ⟨b, cur, ty, h3, h4, h5, h6, h7⟩ := he
        simp only [merge]
        obtain ⟨b', cur', ty', h8, _, _, h9, _⟩ := hold
        rw [← hL', h3] at h8; simp only [Option.some.injEq, Prod.mk.injEq, and_true] at h8; subst h8
        refine ⟨b, cur, ty, by rw [hL, ← hL']; exact h3, h4, fun h => h5 h.1, h9, h7.1, fun j A0 u hA hu => ?_⟩
        have hp := h7.2 j A0 u hA hu
        rw [List.all_eq_true] at hlk
        have hpl := hlk A0 (List.mem_of_getElem? hA)
        refine ⟨?_, hp.2⟩
        rcases hb.im with hfz | hbn | ⟨_, hni⟩
        · exact RA_plain (fun b hF => ⟨hF, fun h => by rw [hfz] at h; cases h⟩) hpl hp.1
        · exact RA_plain (fun b hF => ⟨hF, fun _ k hk => by rw [hbn] at hk; cases hk⟩) hpl hp.1
        · have hin : ext'.getD i .gone ∈ ext' := by
            have hl : i < ext'.length := by rw [hb.len]; exact hlt
            rw [List.getD, List.getElem?_eq_getElem hl]; exact List.getElem_mem hl
          have := hni _ hin
          rw [h2] at this
          simp only [Ent.noIm, List.all_eq_true] at this
          have hno := this A0 (List.mem_of_getElem? hA)
          cases A0 <;> simp only [A.plain, A.noIm, Bool.false_eq_true] at hpl hno
          · exact hp.1
          · exact hp.1
          · exact hp.1
          · trivial
    · have hidx := hmk k hkey
      have hM : backM σ.m keys bor fz B ext' fs k = (if fz = true ∧ k ∈ bor then iceOf (σ.m k) else if B ≤ k ∧ k < B + fs.length then fs.getD (k - B) .gone else σ.m k) := by simp [backM, hidx]
      have hL : backL lam lam' keys B fs.length k = (if B ≤ k ∧ k < B + fs.length then lam' (1000 + (k - B)) else lam k) := by simp [backL, hidx]
      rw [hM]
      by_cases hfb : fz = true ∧ k ∈ bor
      · rw [if_pos hfb]
        obtain ⟨⟨v, s, r, hm⟩, _⟩ := ho.bor k hfb.2
        have hnb : ¬ (B ≤ k ∧ k < B + fs.length) := fun hh => by rw [(hsite k hh.1 hh.2).1] at hm; cases hm
        rw [if_neg hnb] at hL
        rw [hm]
        simp only [iceOf]
        have he := hI.mem.ent k
        rw [hm] at he
        obtain ⟨hw, he⟩ := he
        refine ⟨hw, ?_⟩
        rcases he with ⟨h, hr⟩ | ⟨b, o, cur, ty, h3, h4, h5, h6, h7, h8, h9⟩
        · exact .inl ⟨hL.trans h, hr⟩
        · refine .inr ⟨b, o, hL.trans h3, ⟨p1 b (.inr ⟨k, hfb.2, o, h3⟩), fun h => by rw [hfb.1] at h; cases h⟩, ?_⟩
          exact (cells_of_arr h4 h8 h9).keep (hsame k b o (by rw [hm]; trivial) h3 hkey)
      · rw [if_neg hfb]
        by_cases hnb : B ≤ k ∧ k < B + fs.length
        · rw [if_pos hnb]
          rw [if_pos hnb] at hL
          have hjl : k - B < fs.length := by omega
          obtain ⟨sz, rows, hfe⟩ := hfs _ (List.getElem_mem hjl)
          have hgd : fs.getD (k - B) .gone = .arr 0 sz rows := by rw [List.getD, List.getElem?_eq_getElem hjl]; exact hfe
          have he := p6.ent (1000 + (k - B))
          rw [ofM_fresh (Nat.le_trans ho.few (by decide)), hgd] at he
          rw [hgd]
          obtain ⟨hw, he⟩ := he
          refine ⟨hw, ?_⟩
          rcases he with ⟨h, hr⟩ | ⟨b, o, cur, ty, h3, h4, h5, h6, h7⟩
          · exact .inl ⟨hL.trans h, hr⟩
          · refine .inr ⟨b, o, cur, ty, hL.trans h3, h4, fun h => h5 h.1, ⟨fun h => ?_, fun _ => ?_⟩, h7⟩
            · have := (hsite k hnb.1 hnb.2).2; omega
            · have h8 : w.heap.size ≤ b := h6.2 (by show keys.length ≤ _; have := ho.few; omega)
              have := hI.chg.size; omega
        · rw [if_neg hnb]
          rw [if_neg hnb] at hL
          refine (hI.mem.ent k).keep L hL fun b o hl hlk => ⟨hsame k b o hl hlk hkey, fun hF => ?_⟩
          have hlt := ((hI.mem.ent k).block' hl hlk).2
          rcases p2 b hlt hF.1 with h | ⟨k', hk', o', hlk'⟩
          · exact ((hI.mem.ent k).block' hl hlk).1 h
          · obtain ⟨⟨v, s, r, hm⟩, _⟩ := ho.bor k' hk'
            have := hI.mem.inj _ _ _ _ _ hl (by rw [hm]; trivial) hlk hlk'
            subst this
            cases hfz : fz with
            | true => exact hfb ⟨hfz, hk'⟩
            | false => exact hF.2 hfz k hk' o hlk
  · -- injectivity
    have cas : ∀ k b o, (backM σ.m keys bor fz B ext' fs k).live → backL lam lam' keys B fs.length k = some (b, o) →
        ((σ.m k).live ∧ lam k = some (b, o) ∧ b < w.heap.size ∧ ¬ (k ∉ keys ∧ B ≤ k ∧ k < B + fs.length)) ∨ (k ∉ keys ∧ B ≤ k ∧ k < B + fs.length ∧ lam' (1000 + (k - B)) = some (b, o) ∧ w.heap.size ≤ b ∧ (ofM keys.length 1000 ext' fs (1000 + (k - B))).live) := by
      intro k b o hl hlk
      by_cases hkey : k ∈ keys
      · obtain ⟨i, hi⟩ := List.mem_iff_getElem?.1 hkey
        have hidx := idxOf?_of ho.nd hi
        have : lam k = some (b, o) := by simpa [backL, hidx] using hlk
        exact .inl ⟨hkl k hkey, this, ((hI.mem.ent k).block' (hkl k hkey) this).2, fun h => h.1 hkey⟩
      · have hidx := hmk k hkey
        by_cases hnb : B ≤ k ∧ k < B + fs.length
        · have h1 : lam' (1000 + (k - B)) = some (b, o) := by simpa [backL, hidx, hnb] using hlk
          have hjl : k - B < fs.length := by omega
          obtain ⟨sz, rows, hfe⟩ := hfs _ (List.getElem_mem hjl)
          have hgd : ofM keys.length 1000 ext' fs (1000 + (k - B)) = .arr 0 sz rows := by rw [ofM_fresh (Nat.le_trans ho.few (by decide)), List.getD, List.getElem?_eq_getElem hjl]; exact hfe
          have he := p6.ent (1000 + (k - B))
          rw [hgd] at he
          refine .inr ⟨hkey, hnb.1, hnb.2, h1, ?_, by rw [hgd]; trivial⟩
          rcases he.2 with ⟨h, _⟩ | ⟨b', o', cur, ty, h3, h4, h5, h6, h7⟩
          · rw [h1] at h; cases h
          · rw [h1] at h3; simp only [Option.some.injEq, Prod.mk.injEq] at h3; obtain ⟨rfl, rfl⟩ := h3
            exact h6.2 (by show keys.length ≤ _; have := ho.few; omega)
        · have h1 : lam k = some (b, o) := by
            unfold backL at hlk; rw [hidx] at hlk; simpa [hnb] using hlk
          unfold backM at hl
          rw [hidx] at hl
          simp only [hnb, if_false] at hl
          split at hl
          · rename_i hc
            obtain ⟨⟨v, s, r, hm⟩, _⟩ := ho.bor k hc.2
            rw [hm] at hl; exact hl.elim
          · exact .inl ⟨hl, h1, ((hI.mem.ent k).block' hl h1).2, fun h => hnb h.2⟩
    rcases cas k b o h1 h3 with ⟨l1, e1, s1, n1⟩ | ⟨n1, a1, c1, e1, s1, l1⟩ <;> rcases cas k' b o' h2 h4 with ⟨l2, e2, s2, n2⟩ | ⟨n2, a2, c2, e2, s2, l2⟩
    · exact hI.mem.inj _ _ _ _ _ l1 l2 e1 e2
    · omega
    · omega
    · have := p6.inj _ _ _ _ _ l1 l2 e1 e2; omega
  · -- old blocks
    have hlt' : b < w.heap.size := by have := hI.chg.size; omega
    rcases p2 b hlt' hF.1 with h | ⟨k, hk, o, hlk⟩
    · exact hI.f2 b hlt h
    · obtain ⟨⟨v, s, r, hm⟩, hnk, hnx⟩ := ho.bor k hk
      cases hfz : fz with
      | false => exact absurd hlk (hF.2 hfz k hk o)
      | true =>
        have he := hI.mem.ent k
        rw [hm] at he
        rcases he.2 with ⟨h, _⟩ | ⟨b', o', cur, ty, h3, h4, h5, h6, h7⟩
        · rw [hlk] at h; cases h
        · rw [hlk] at h3; simp only [Option.some.injEq, Prod.mk.injEq] at h3; obtain ⟨rfl, rfl⟩ := h3
          have := h6.2 (hnx hfz); omega
  · have : backL lam lam' keys B fs.length k = lam k := by
      unfold backL
      split
      · rfl
      · rw [if_neg (by have := ho.base; omega)]
    rw [this]; exact hI.l0 k hk
  · refine ⟨p4.os.trans hI.chg.os, p4.tape.trans hI.chg.tape, p4.output.trans hI.chg.output, Nat.le_trans hI.chg.size p4.size, fun b hlt hx => ?_, fun b => Nat.le_trans (hI.chg.bs b) (p4.bs b)⟩
    rw [p4.block b (by have := hI.chg.size; show b < w.heap.size; omega) ?_]
    · exact hI.chg.block b hlt hx
    · rintro ⟨i, o, hi, hli⟩
      have hi' : i < keys.length := hi
      have hl : lam keys[i] = some (b, o) := by simpa [lamC, hi'] using hli
      have hh : Home g keys[i] b := by
        have he := hI.mem.ent keys[i]
        have hlv := hkl _ (List.getElem_mem hi')
        cases hm : σ.m keys[i] with
        | gone => rw [hm] at hlv; exact hlv.elim
        | ice v s r => rw [hm] at hlv; exact hlv.elim
        | arr v s r =>
          rw [hm] at he
          rcases he.2 with ⟨h, _⟩ | ⟨b', o', cur, ty, h3, h4, h5, h6, h7⟩
          · rw [hl] at h; cases h
          · rw [hl] at h3; simp only [Option.some.injEq, Prod.mk.injEq] at h3; obtain ⟨rfl, rfl⟩ := h3; exact h6
        | box v cs =>
          rw [hm] at he
          obtain ⟨b', cur, ty, h3, h4, h5, h6, h7⟩ := he
          rw [hl] at h3; simp only [Option.some.injEq, Prod.mk.injEq] at h3; obtain ⟨rfl, _⟩ := h3; exact h6
      by_cases hkn : keys[i] < g.nx
      · exact hx (hh.1 hkn)
      · have := hh.2 (by omega); omega

end
end Go.Abs
