/- The same world under other names: keys renamed, keys given up, arrays frozen. -/
import Derived.Test.YtfkciaogihemiaaAAct
namespace Go.Abs
open Go.RowKit
set_option linter.unusedVariables false
set_option linter.unusedSimpArgs false

def ren (iv : Nat → Option Nat) (m : Mem) : A → A
  | .ow k ver sz n =>
    match iv k with
    | some k' => if ver = (m k).ver then .ow k' 0 sz n else .dead
    | none => match m k with | .ice ver' sz' rows => if ver = ver' ∧ sz = sz' then .im sz rows else .dead | _ => .dead
  | .bx k ver off => match iv k with | some k' => if ver = (m k).ver then .bx k' 0 off else .dead | none => .dead
  | .pa k ver sz i off => match iv k with | some k' => if ver = (m k).ver then .pa k' 0 sz i off else .dead | none => .dead
  | a => a
def renV1 (iv : Nat → Option Nat) (m : Mem) : AV → AV
  | .at a => .at (ren iv m a)
  | .ag cs => .ag (cs.map (ren iv m))
  | .tp xs => .tp xs
def renV (iv : Nat → Option Nat) (m : Mem) : AV → AV
  | .at a => .at (ren iv m a)
  | .ag cs => .ag (cs.map (ren iv m))
  | .tp xs => .tp (xs.map (renV1 iv m))
def renE (iv : Nat → Option Nat) (m : Mem) : Ent → Ent
  | .gone => .gone
  | .arr _ sz rows => .arr 0 sz rows
  | .ice _ sz rows => .ice 0 sz rows
  | .box _ cells => .box 0 (cells.map (ren iv m))
def renM (r iv : Nat → Option Nat) (m : Mem) : Mem := fun k => match r k with | some k0 => renE iv m (m k0) | none => .gone
def renL (r : Nat → Option Nat) (lam : Lam) : Lam := fun k => match r k with | some k0 => lam k0 | none => none

structure RenOk (nx : Nat) (r iv : Nat → Option Nat) : Prop where
  iv : ∀ k k', iv k = some k' → r k' = some k
  inj : ∀ k k' k0, r k = some k0 → r k' = some k0 → k = k'
  ext : ∀ k, k < nx → r k = some k
  own : ∀ k k0, nx ≤ k → r k = some k0 → nx ≤ k0

section
variable {g : G} {F : Nat → Prop} {lam : Lam} {w : World} {m : Mem} {r iv : Nat → Option Nat}

theorem renE_gone {e : Ent} : renE iv m e = .gone ↔ e = .gone := by cases e <;> simp [renE]
theorem renE_live {e : Ent} : (renE iv m e).live ↔ e.live := by cases e <;> simp [renE, Ent.live]
theorem renE_ver {e : Ent} : (renE iv m e).ver = 0 := by cases e <;> simp [renE, Ent.ver]

theorem RA.im_of_ow {k ver sz n : Nat} {rows : List (List Value)} {u : Value} (hM : EntRel g w F m lam k (m k)) (h : RA w F m lam (.ow k ver sz n) u) (hm : m k = .ice ver sz rows) : RA w F m lam (.im sz rows) u := by
  obtain ⟨_, _, h4⟩ := h
  obtain ⟨_, rfl, h5⟩ := h4 sz rows (.inr hm)
  rw [hm] at hM
  obtain ⟨hw, hM⟩ := hM
  refine ⟨hw, ?_⟩
  rcases h5 with ⟨hl, rfl⟩ | ⟨b, o, cap, hl, rfl, h6, h7, _⟩
  · have hr : rows = [] := by
      rcases hM with h | ⟨b, o, h, _⟩
      · exact h.2
      · rw [hl] at h; cases h
    subst hr
    exact ⟨_, _, rfl, Nat.le_refl _, Nat.zero_le _, .inl rfl⟩
  · refine ⟨_, _, rfl, h6, h7, ?_⟩
    rcases hM with ⟨h, rfl⟩ | ⟨b', o', h, hF, hr⟩
    · exact .inl rfl
    · rw [hl] at h; simp only [Option.some.injEq, Prod.mk.injEq] at h; obtain ⟨rfl, rfl⟩ := h
      exact .inr ⟨b, o, rfl, hF, hr⟩

theorem RA.ren (ho : RenOk g.nx r iv) (hM : ∀ k, EntRel g w F m lam k (m k)) {a : A} {u : Value} (h : RA w F m lam a u) : RA w F (renM r iv m) (renL r lam) (Abs.ren iv m a) u := by
  cases a with
  | v x => exact h
  | im sz rows => exact h
  | fr sz rows => exact h
  | nil => exact h
  | pi cs => exact h
  | er => exact h
  | dead => trivial
  | ow k ver sz n =>
    simp only [Abs.ren]
    cases hk : iv k with
    | none =>
      dsimp only
      split
      · rename_i ver' sz' rows hm
        split
        · rename_i hvs
          obtain ⟨rfl, rfl⟩ := hvs
          exact RA.im_of_ow (m := m) (lam := lam) (hM k) h hm
        · trivial
      · trivial
    | some k' =>
      have hr := ho.iv k k' hk
      dsimp only
      split
      · rename_i hv
        obtain ⟨⟨h1, h2⟩, h3, h4⟩ := h
        refine ⟨⟨?_, Nat.zero_le _⟩, h3, fun sz' rows hm => ?_⟩
        · simp only [renM, hr]; rw [Ne, renE_gone]; exact h1
        · simp only [renM, hr] at hm
          simp only [renL, hr]
          have : m k = .arr ver sz' rows ∨ m k = .ice ver sz' rows := by
            rw [hv]
            cases he : m k <;> simp [he, renE, Ent.ver] at hm ⊢ <;> exact hm
          exact h4 sz' rows this
      · trivial
  | bx k ver off =>
    simp only [Abs.ren]
    cases hk : iv k with
    | none => trivial
    | some k' =>
      have hr := ho.iv k k' hk
      dsimp only
      split
      · rename_i hv
        obtain ⟨⟨h1, h2⟩, h3, h4⟩ := h
        refine ⟨⟨?_, Nat.zero_le _⟩, h3, fun cells hm => ?_⟩
        · simp only [renM, hr]; rw [Ne, renE_gone]; exact h1
        · simp only [renM, hr] at hm
          simp only [renL, hr]
          cases he : m k with
          | box ver' cells' =>
            rw [he] at hv; simp only [Ent.ver] at hv; subst hv
            exact h4 cells' he
          | _ => rw [he] at hm; simp [renE] at hm
      · trivial
  | pa k ver sz i off =>
    simp only [Abs.ren]
    cases hk : iv k with
    | none => trivial
    | some k' =>
      have hr := ho.iv k k' hk
      dsimp only
      split
      · rename_i hv
        obtain ⟨⟨h1, h2⟩, h3, h4⟩ := h
        refine ⟨⟨?_, Nat.zero_le _⟩, h3, fun sz' rows hm => ?_⟩
        · simp only [renM, hr]; rw [Ne, renE_gone]; exact h1
        · simp only [renM, hr] at hm
          simp only [renL, hr]
          have : m k = .arr ver sz' rows ∨ m k = .ice ver sz' rows := by
            rw [hv]
            cases he : m k <;> simp [he, renE, Ent.ver] at hm ⊢ <;> exact hm
          exact h4 sz' rows this
      · trivial

theorem RL.ren (ho : RenOk g.nx r iv) (hM : ∀ k, EntRel g w F m lam k (m k)) {cs : List A} {us : List Value} (h : RL (fun a x => RA w F m lam a x ∧ x.oneCell' = true) cs us) :
    RL (fun a x => RA w F (renM r iv m) (renL r lam) a x ∧ x.oneCell' = true) (cs.map (Abs.ren iv m)) us := by
  refine ⟨by simpa using h.1, fun i a u ha hu => ?_⟩
  rw [List.getElem?_map] at ha
  cases hc : cs[i]? with
  | none => simp [hc] at ha
  | some a0 =>
    simp only [hc, Option.map_some, Option.some.injEq] at ha; subst ha
    have := h.2 i a0 u hc hu
    exact ⟨this.1.ren ho hM, this.2⟩

theorem RV1.ren (ho : RenOk g.nx r iv) (hM : ∀ k, EntRel g w F m lam k (m k)) {x : AV} {u : Value} (h : RV1 w F m lam x u) : RV1 w F (renM r iv m) (renL r lam) (renV1 iv m x) u := by
  cases x with
  | «at» a => exact RA.ren ho hM h
  | ag cs => obtain ⟨us, h1, h2⟩ := h; exact ⟨us, h1, h2.ren ho hM⟩
  | tp xs => exact h

theorem RV.ren (ho : RenOk g.nx r iv) (hM : ∀ k, EntRel g w F m lam k (m k)) {x : AV} {u : Value} (h : RV w F m lam x u) : RV w F (renM r iv m) (renL r lam) (renV iv m x) u := by
  cases x with
  | «at» a => exact RA.ren ho hM h
  | ag cs => exact RV1.ren (x := .ag cs) ho hM h
  | tp xs =>
    obtain ⟨us, h1, h2, h3⟩ := h
    refine ⟨us, h1, by simpa using h2, fun i x y hx hy => ?_⟩
    rw [List.getElem?_map] at hx
    cases hc : xs[i]? with
    | none => simp [hc] at hx
    | some x0 =>
      simp only [hc, Option.map_some, Option.some.injEq] at hx; subst hx
      exact (h3 i x0 y hc hy).ren ho hM

theorem EntRel.ren (ho : RenOk g.nx r iv) (hM : ∀ k, EntRel g w F m lam k (m k)) {k k0 : Nat} (hr : r k = some k0) {e : Ent} (h : EntRel g w F m lam k0 e) : EntRel g w F (renM r iv m) (renL r lam) k (renE iv m e) := by
  have hl : renL r lam k = lam k0 := by simp [renL, hr]
  have hh : ∀ b, Home g k0 b → Home g k b := by
    intro b hb
    by_cases hk : k < g.nx
    · have := ho.ext k hk
      rw [hr] at this
      simp only [Option.some.injEq] at this
      subst this; exact hb
    · have := ho.own k k0 (by omega) hr
      exact ⟨fun h => by omega, fun _ => hb.2 this⟩
  cases e with
  | gone => trivial
  | arr ver sz rows =>
    obtain ⟨h1, h2⟩ := h
    refine ⟨h1, ?_⟩
    rcases h2 with h2 | ⟨b, o, cur, ty, h3, h4, h5, h6, h7⟩
    · exact .inl ⟨hl.trans h2.1, h2.2⟩
    · exact .inr ⟨b, o, cur, ty, hl.trans h3, h4, h5, hh b h6, h7⟩
  | ice ver sz rows =>
    obtain ⟨h1, h2⟩ := h
    refine ⟨h1, ?_⟩
    rcases h2 with h2 | ⟨b, o, h3, h4⟩
    · exact .inl ⟨hl.trans h2.1, h2.2⟩
    · exact .inr ⟨b, o, hl.trans h3, h4⟩
  | box ver cells =>
    obtain ⟨b, cur, ty, h3, h4, h5, h6, h7⟩ := h
    exact ⟨b, cur, ty, hl.trans h3, h4, h5, hh b h6, h7.ren ho hM⟩

theorem MemRel.ren (ho : RenOk g.nx r iv) (h : MemRel g w F m lam) : MemRel g w F (renM r iv m) (renL r lam) where
  ent k := by
    show EntRel g w F (renM r iv m) (renL r lam) k (renM r iv m k)
    cases hr : r k with
    | none => simp only [renM, hr]; trivial
    | some k0 =>
      have : renM r iv m k = renE iv m (m k0) := by simp [renM, hr]
      rw [this]
      exact (h.ent k0).ren ho h.ent hr
  inj k k' b o o' h1 h2 h3 h4 := by
    cases hr : r k with
    | none => simp [renM, hr, Ent.live] at h1
    | some k0 =>
      cases hr' : r k' with
      | none => simp [renM, hr', Ent.live] at h2
      | some k1 =>
        simp only [renM, hr, renE_live] at h1
        simp only [renM, hr', renE_live] at h2
        simp only [renL, hr] at h3
        simp only [renL, hr'] at h4
        have := h.inj k0 k1 b o o' h1 h2 h3 h4
        subst this
        exact ho.inj k k' k0 hr hr'

end

/-- What is known, less sharply told; the world stands. -/
def Weak (nx : Nat) (σ σ' : St) : Prop := ∀ (g : G) (F : Nat → Prop) (lam : Lam) (a : Act) (w : World), g.nx = nx → Inv g F lam σ a w → ∃ F' lam', Inv g F' lam' σ' a w

theorem Weak.refl (nx : Nat) (σ : St) : Weak nx σ σ := fun g F lam a w _ h => ⟨F, lam, h⟩
theorem Weak.trans {nx : Nat} {σ σ' σ'' : St} (h : Weak nx σ σ') (h' : Weak nx σ' σ'') : Weak nx σ σ'' := fun g F lam a w hn hI =>
  let ⟨F', lam', hI'⟩ := h g F lam a w hn hI
  h' g F' lam' a w hn hI'

def invOf (nx base : Nat) (ks : List Nat) (k : Nat) : Option Nat := if k < nx then some k else match ks.idxOf? k with | some i => some (base + i) | none => none
def rOf (nx base : Nat) (ks : List Nat) (k : Nat) : Option Nat := if k < nx then some k else if base ≤ k then ks[k - base]? else none

theorem idxOf?_some {ks : List Nat} {k i : Nat} (h : ks.idxOf? k = some i) : ks[i]? = some k := by
  induction ks generalizing i with
  | nil => simp at h
  | cons x ks ih =>
    rw [List.idxOf?_cons] at h
    split at h
    · rename_i hx
      simp only [Option.some.injEq] at h; subst h
      simpa using hx
    · cases hi : ks.idxOf? k with
      | none => simp [hi] at h
      | some j => simp [hi] at h; subst h; simpa using ih hi

theorem RenOk.of (nx base : Nat) (ks : List Nat) (hnx : nx ≤ base) (hnd : ks.Nodup) (hown : ∀ k ∈ ks, nx ≤ k) : RenOk nx (rOf nx base ks) (invOf nx base ks) where
  iv k k' h := by
    unfold invOf at h
    split at h
    · simp only [Option.some.injEq] at h; subst h; simp [rOf, *]
    · split at h
      · rename_i i hi
        simp only [Option.some.injEq] at h; subst h
        have := idxOf?_some hi
        rw [rOf, if_neg (by omega), if_pos (by omega), Nat.add_sub_cancel_left]
        exact this
      · cases h
  inj k k' k0 h h' := by
    unfold rOf at h h'
    split at h
    · rename_i hk
      simp only [Option.some.injEq] at h; subst h
      split at h'
      · simpa using h'.symm
      · split at h'
        · have := hown _ (List.mem_of_getElem? h'); omega
        · cases h'
    · split at h
      · split at h'
        · simp only [Option.some.injEq] at h'; subst h'
          have := hown _ (List.mem_of_getElem? h); omega
        · split at h'
          · have h1 := (List.getElem?_eq_some_iff.1 h).1
            have := (List.getElem?_inj h1 hnd).1 (h.trans h'.symm)
            omega
          · cases h'
      · cases h
  ext k h := by simp [rOf, h]
  own k k0 h h' := by
    unfold rOf at h'
    rw [if_neg (by omega)] at h'
    split at h'
    · exact hown _ (List.mem_of_getElem? h')
    · cases h'

def ofT : List (Nat × AV) → Nat → AV
  | [], _ => .at .dead
  | (k, x) :: l, t => if t = k then x else ofT l t
def ofM (nx base : Nat) (ext es : List Ent) : Mem := fun k => if k < nx then ext.getD k .gone else if base ≤ k then es.getD (k - base) .gone else .gone

/-- The frame at a loop's head: the slots that live, the keys that are kept, by new names. -/
def canon (nx base : Nat) (live ks : List Nat) (σ : St) : St :=
  ⟨ofT (live.map fun t => (t, renV (invOf nx base ks) σ.m (σ.t t))),
   ofM nx base ((List.range nx).map fun k => renE (invOf nx base ks) σ.m (σ.m k)) (ks.map fun k => renE (invOf nx base ks) σ.m (σ.m k))⟩

theorem ofM_renM (nx base : Nat) (ks : List Nat) (m : Mem) (hnx : nx ≤ base) : ofM nx base ((List.range nx).map fun k => renE (invOf nx base ks) m (m k)) (ks.map fun k => renE (invOf nx base ks) m (m k)) = renM (rOf nx base ks) (invOf nx base ks) m := by
  funext k
  unfold ofM renM rOf
  by_cases h : k < nx
  · rw [if_pos h, if_pos h]
    simp [List.getD, h]
  · rw [if_neg h, if_neg h]
    by_cases hb : base ≤ k
    · rw [if_pos hb, if_pos hb]
      simp only [List.getD, List.getElem?_map]
      cases ks[k - base]? <;> simp
    · rw [if_neg hb, if_neg hb]

theorem RV_ofT {w : World} {F : Nat → Prop} {m : Mem} {lam : Lam} {vs : Nat → Value} (live : List Nat) (f : Nat → AV) (h : ∀ t, RV w F m lam (f t) (vs t)) (t : Nat) : RV w F m lam (ofT (live.map fun t => (t, f t)) t) (vs t) := by
  induction live with
  | nil => trivial
  | cons k live ih =>
    simp only [List.map_cons, ofT]
    by_cases hk : t = k
    · rw [if_pos hk]; subst hk; exact h t
    · rw [if_neg hk]; exact ih

theorem Weak.canon {nx base : Nat} (live ks : List Nat) (σ : St) (hnx : nx ≤ base) (hnd : ks.Nodup) (hown : ∀ k ∈ ks, nx ≤ k) : Weak nx σ (canon nx base live ks σ) := by
  intro g F lam a w hn hI
  subst hn
  have ho := RenOk.of g.nx base ks hnx hnd hown
  refine ⟨F, renL (rOf g.nx base ks) lam, ?_⟩
  unfold Abs.canon
  rw [ofM_renM _ _ _ _ hnx]
  exact {
    f1 := hI.f1, f2 := hI.f2, f3 := hI.f3
    mem := hI.mem.ren ho
    l0 := fun k hk => by simp only [renL, ho.ext k hk]; exact hI.l0 k hk
    sl := fun t => RV_ofT live (fun t => renV (invOf g.nx base ks) σ.m (σ.t t)) (fun t => (hI.sl t).ren ho hI.mem.ent) t
    nt := hI.nt, chg := hI.chg, df := hI.df }

/-- An array of our own is not written any more. -/
theorem Weak.freeze {nx k ver sz : Nat} {rows : List (List Value)} (σ : St) (hm : σ.m k = .arr ver sz rows) (hnx : nx ≤ k) : Weak nx σ ⟨σ.t, upd σ.m k (.ice ver sz rows)⟩ := by
  intro g F lam a w hn hI
  subst hn
  have he := hI.mem.ent k
  rw [hm] at he
  obtain ⟨hw, he⟩ := he
  have main : ∀ F' : Nat → Prop, (∀ b, F b → F' b) → (∀ b, b < g.w0.heap.size → F' b → g.F0 b) → (∀ b, F' b → b < w.heap.size) →
      (∀ k' b o, k' ≠ k → (σ.m k').live → lam k' = some (b, o) → ¬ F' b) → EntRel g w F' (upd σ.m k (.ice ver sz rows)) lam k (.ice ver sz rows) → Inv g F' lam ⟨σ.t, upd σ.m k (.ice ver sz rows)⟩ a w := by
    intro F' h1 h2 h3 h4 h5
    have L : Le w w F F' σ.m (upd σ.m k (.ice ver sz rows)) lam lam := by
      refine ⟨fun b hb => ⟨h1 b hb, rfl⟩, fun _ => Nat.le_refl _, fun k' hk => ?_, fun k' hk => ?_, fun k' v s r hk _ h => ⟨rfl, ?_⟩, fun k' v cs hk _ h => ⟨rfl, ?_⟩⟩
      · by_cases hkk : k' = k
        · subst hkk; rw [upd_same]; simp
        · rw [upd_ne _ _ hkk]; exact hk
      · by_cases hkk : k' = k
        · subst hkk; rw [upd_same, hm]; simp [Ent.ver]
        · rw [upd_ne _ _ hkk]; exact Nat.le_refl _
      · by_cases hkk : k' = k
        · subst hkk; rw [upd_same] at h
          simp only [reduceCtorEq, Ent.ice.injEq, false_or] at h
          obtain ⟨rfl, rfl, rfl⟩ := h
          exact ⟨_, .inl hm, rfl⟩
        · rw [upd_ne _ _ hkk] at h; exact ⟨r, h, rfl⟩
      · by_cases hkk : k' = k
        · subst hkk; rw [upd_same] at h; cases h
        · rw [upd_ne _ _ hkk] at h; exact ⟨cs, h⟩
    exact {
      f1 := fun b hb => h1 b (hI.f1 b hb), f2 := h2, f3 := h3
      mem := hI.mem.turn L k (fun k' hne => ⟨upd_ne _ _ hne, rfl⟩) (fun k' b o hne hl hlk => ⟨rfl, h4 k' b o hne hl hlk⟩) (by dsimp only; rw [upd_same]; exact h5) (fun k' b o o' hne hl hlk h6 _ => by dsimp only at h6; rw [upd_same] at h6; exact h6.elim)
      l0 := hI.l0
      sl := fun t => (hI.sl t).le L
      nt := hI.nt, chg := hI.chg, df := hI.df }
  rcases he with ⟨hlk, hr⟩ | ⟨b, o, cur, ty, hlk, hg, hF, hh, ho, hc, h1⟩
  · exact ⟨F, lam, main F (fun _ h => h) hI.f2 hI.f3 (fun k' b o _ hl hlk => ((hI.mem.ent k').block' hl hlk).1) ⟨hw, .inl ⟨hlk, hr⟩⟩⟩
  · refine ⟨fun x => F x ∨ x = b, lam, main _ (fun _ h => .inl h) ?_ ?_ ?_ ⟨hw, .inr ⟨b, o, hlk, .inr rfl, cells_of_arr hg hc h1⟩⟩⟩
    · rintro x hx (h | rfl)
      · exact hI.f2 x hx h
      · have := hh.2 hnx; omega
    · rintro x (h | rfl)
      · exact hI.f3 x h
      · exact (Array.getElem?_eq_some_iff.1 hg).1
    · rintro k' b' o' hne hl hlk' (h | rfl)
      · exact ((hI.mem.ent k').block' hl hlk').1 h
      · exact hne (hI.mem.inj _ _ _ _ _ hl (by rw [hm]; trivial) hlk' hlk)

/-- A nil slice in a slot is an array of our own that has nothing yet. -/
theorem Weak.own {nx t κ sz : Nat} (σ : St) (ht : σ.t t = .at .nil) (hm : σ.m κ = .gone) (hnx : nx ≤ κ) : Weak nx σ ⟨upd σ.t t (.at (.ow κ 0 sz 0)), upd σ.m κ (.arr 0 sz [])⟩ := by
  intro g F lam a w hn hI
  subst hn
  have L : Le w w F F σ.m (upd σ.m κ (.arr 0 sz [])) lam (upd lam κ none) := by
    refine ⟨fun b hb => ⟨hb, rfl⟩, fun _ => Nat.le_refl _, fun k hk => ?_, fun k hk => ?_, fun k v s r hk _ h => ?_, fun k v cs hk _ h => ?_⟩ <;>
      have hne : k ≠ κ := (fun e => by subst e; exact hk hm)
    · rw [upd_ne _ _ hne]; exact hk
    · rw [upd_ne _ _ hne]; exact Nat.le_refl _
    · rw [upd_ne _ _ hne] at h ⊢; exact ⟨rfl, r, h, rfl⟩
    · rw [upd_ne _ _ hne] at h ⊢; exact ⟨rfl, cs, h⟩
  have hu := hI.sl t
  rw [ht] at hu
  refine ⟨F, upd lam κ none, {
    f1 := hI.f1, f2 := hI.f2, f3 := hI.f3
    mem := hI.mem.turn L κ (fun k hne => ⟨upd_ne _ _ hne, upd_ne _ _ hne⟩) (fun k b o hne hl hlk => ⟨rfl, ((hI.mem.ent k).block' hl hlk).1⟩) (by dsimp only; rw [upd_same]; exact ⟨(by intro r hr; cases hr), .inl ⟨upd_same _ _ _, rfl⟩⟩) (by
      intro k b o o' _ _ _ _ h; rw [upd_same] at h; cases h)
    l0 := fun k hk => by rw [upd_ne _ _ (by omega)]; exact hI.l0 k hk
    sl := fun t' => ?_
    nt := hI.nt, chg := hI.chg, df := hI.df }⟩
  by_cases htt : t' = t
  · subst htt
    show RV w F (upd σ.m κ (.arr 0 sz [])) (upd lam κ none) (upd σ.t t' _ t') _
    rw [upd_same]
    have hu' : a.tmps.getD t' undef = .slice none 0 0 := hu
    rw [hu']
    refine ⟨by rw [upd_same]; simp [Ent.ver], .inl ⟨rfl, rfl⟩, fun s' r' h' => ?_⟩
    rw [upd_same] at h'
    simp only [Ent.arr.injEq, true_and, reduceCtorEq, or_false] at h'
    obtain ⟨rfl, rfl⟩ := h'
    exact ⟨rfl, rfl, .inl ⟨upd_same _ _ _, rfl⟩⟩
  · show RV w F (upd σ.m κ (.arr 0 sz [])) (upd lam κ none) (upd σ.t t _ t') _
    rw [upd_ne _ _ htt]
    exact (hI.sl t').le L

end Go.Abs
