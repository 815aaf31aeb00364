/- The same world under other names: keys renamed, keys given up, arrays frozen. -/
import Derived.Test.YtgnomlceahpbkaaGreatALibA
namespace Go.Abs
open Go.RowKit
set_option linter.unusedVariables false
set_option linter.unusedSimpArgs false

def ren (iv : Nat → Option Nat) (m : Mem) : A → A
  | .ow k ver sz n =>
    match iv k with
    | some k' => if ver = (m k).ver then .ow k' 0 sz n else .dead
    | none => match m k with | .ice ver' sz' rows => if ver = ver' ∧ sz = sz' then .im sz rows else .dead | _ => .dead
  | .bx k ver off => match iv k with | some k' => if ver = (m k).ver then .bx k' 0 off else .dead | none => .dead
  | .pa k ver sz i off => match iv k with | some k' => if ver = (m k).ver then .pa k' 0 sz i off else .dead | none => .dead
  | .vw .. => .dead
  | a => a
def renV1 (iv : Nat → Option Nat) (m : Mem) : AV → AV
  | .at a => .at (ren iv m a)
  | .ag cs => .ag (cs.map (ren iv m))
  | .tp xs => .tp xs
def renV (iv : Nat → Option Nat) (m : Mem) : AV → AV
  | .at a => .at (ren iv m a)
  | .ag cs => .ag (cs.map (ren iv m))
  | .tp xs => .tp (xs.map (renV1 iv m))
def renE (iv : Nat → Option Nat) (m : Mem) : Ent → Ent
  | .gone => .gone
  | .arr _ sz rows => .arr 0 sz rows
  | .ice _ sz rows => .ice 0 sz rows
  | .box _ cells => .box 0 (cells.map (ren iv m))
def renM (r iv : Nat → Option Nat) (m : Mem) : Mem := fun k => match r k with | some k0 => renE iv m (m k0) | none => .gone
def renL (r : Nat → Option Nat) (lam : Lam) : Lam := fun k => match r k with | some k0 => lam k0 | none => none

structure RenOk (nx : Nat) (r iv : Nat → Option Nat) : Prop where
  iv : ∀ k k', iv k = some k' → r k' = some k
  inj : ∀ k k' k0, r k = some k0 → r k' = some k0 → k = k'
  ext : ∀ k, k < nx → r k = some k
  own : ∀ k k0, nx ≤ k → r k = some k0 → nx ≤ k0

section
variable {g : G} {F : Nat → Prop} {lam : Lam} {w : World} {m : Mem} {r iv : Nat → Option Nat}

theorem renE_gone {e : Ent} : renE iv m e = .gone ↔ e = .gone := by cases e <;> simp [renE]
theorem renE_live {e : Ent} : (renE iv m e).live ↔ e.live := by cases e <;> simp [renE, Ent.live]
theorem renE_ver {e : Ent} : (renE iv m e).ver = 0 := by cases e <;> simp [renE, Ent.ver]

theorem RA.im_of_ow {k ver sz n : Nat} {rows : List (List Value)} {u : Value} (hM : EntRel g w F m lam k (m k)) (h : RA w F m lam (.ow k ver sz n) u) (hm : m k = .ice ver sz rows) : RA w F m lam (.im sz rows) u := by
  obtain ⟨_, _, h4⟩ := h
  obtain ⟨_, rfl, h5⟩ := h4 sz rows (.inr hm)
  rw [hm] at hM
  obtain ⟨hw, hM⟩ := hM
  refine ⟨hw, ?_⟩
  rcases h5 with ⟨hl, rfl⟩ | ⟨b, o, cap, hl, rfl, h6, h7, _⟩
  · have hr : rows = [] := by
      rcases hM with h | ⟨b, o, h, _⟩
      · exact h.2
      · rw [hl] at h; cases h
    subst hr
    exact ⟨_, _, rfl, Nat.le_refl _, Nat.zero_le _, .inl rfl⟩
  · refine ⟨_, _, rfl, h6, h7, ?_⟩
    rcases hM with ⟨h, rfl⟩ | ⟨b', o', h, hF, hr⟩
    · exact .inl rfl
    · rw [hl] at h; simp only [Option.some.injEq, Prod.mk.injEq] at h; obtain ⟨rfl, rfl⟩ := h
      exact .inr ⟨b, o, rfl, hF, hr⟩

theorem RA.ren (ho : RenOk g.nx r iv) (hM : ∀ k, EntRel g w F m lam k (m k)) {a : A} {u : Value} (h : RA w F m lam a u) : RA w F (renM r iv m) (renL r lam) (Abs.ren iv m a) u := by
  cases a with
  | v x => exact h
  | im sz rows => exact h
  | fr sz rows => exact h
  | fb cs => exact h
  | nil => exact h
  | pi cs => exact h
  | er => exact h
  | dead => trivial
  | ow k ver sz n =>
    simp only [Abs.ren]
    cases hk : iv k with
    | none =>
      dsimp only
      split
      · rename_i ver' sz' rows hm
        split
        · rename_i hvs
          obtain ⟨rfl, rfl⟩ := hvs
          exact RA.im_of_ow (m := m) (lam := lam) (hM k) h hm
        · trivial
      · trivial
    | some k' =>
      have hr := ho.iv k k' hk
      dsimp only
      split
      · rename_i hv
        obtain ⟨⟨h1, h2⟩, h3, h4⟩ := h
        refine ⟨⟨?_, Nat.zero_le _⟩, h3, fun sz' rows hm => ?_⟩
        · simp only [renM, hr]; rw [Ne, renE_gone]; exact h1
        · simp only [renM, hr] at hm
          simp only [renL, hr]
          have : m k = .arr ver sz' rows ∨ m k = .ice ver sz' rows := by
            rw [hv]
            cases he : m k <;> simp [he, renE, Ent.ver] at hm ⊢ <;> exact hm
          exact h4 sz' rows this
      · trivial
  | bx k ver off =>
    simp only [Abs.ren]
    cases hk : iv k with
    | none => trivial
    | some k' =>
      have hr := ho.iv k k' hk
      dsimp only
      split
      · rename_i hv
        obtain ⟨⟨h1, h2⟩, h3, h4⟩ := h
        refine ⟨⟨?_, Nat.zero_le _⟩, h3, fun cells hm => ?_⟩
        · simp only [renM, hr]; rw [Ne, renE_gone]; exact h1
        · simp only [renM, hr] at hm
          simp only [renL, hr]
          cases he : m k with
          | box ver' cells' =>
            rw [he] at hv; simp only [Ent.ver] at hv; subst hv
            exact h4 cells' he
          | _ => rw [he] at hm; simp [renE] at hm
      · trivial
  | vw k ver sz off n => trivial
  | pa k ver sz i off =>
    simp only [Abs.ren]
    cases hk : iv k with
    | none => trivial
    | some k' =>
      have hr := ho.iv k k' hk
      dsimp only
      split
      · rename_i hv
        obtain ⟨⟨h1, h2⟩, h3, h4⟩ := h
        refine ⟨⟨?_, Nat.zero_le _⟩, h3, fun sz' rows hm => ?_⟩
        · simp only [renM, hr]; rw [Ne, renE_gone]; exact h1
        · simp only [renM, hr] at hm
          simp only [renL, hr]
          have : m k = .arr ver sz' rows ∨ m k = .ice ver sz' rows := by
            rw [hv]
            cases he : m k <;> simp [he, renE, Ent.ver] at hm ⊢ <;> exact hm
          exact h4 sz' rows this
      · trivial

theorem RL.ren (ho : RenOk g.nx r iv) (hM : ∀ k, EntRel g w F m lam k (m k)) {cs : List A} {us : List Value} (h : RL (fun a x => RA w F m lam a x ∧ x.oneCell' = true) cs us) :
    RL (fun a x => RA w F (renM r iv m) (renL r lam) a x ∧ x.oneCell' = true) (cs.map (Abs.ren iv m)) us := by
  refine ⟨by simpa using h.1, fun i a u ha hu => ?_⟩
  rw [List.getElem?_map] at ha
  cases hc : cs[i]? with
  | none => simp [hc] at ha
  | some a0 =>
    simp only [hc, Option.map_some, Option.some.injEq] at ha; subst ha
    have := h.2 i a0 u hc hu
    exact ⟨this.1.ren ho hM, this.2⟩

theorem RV1.ren (ho : RenOk g.nx r iv) (hM : ∀ k, EntRel g w F m lam k (m k)) {x : AV} {u : Value} (h : RV1 w F m lam x u) : RV1 w F (renM r iv m) (renL r lam) (renV1 iv m x) u := by
  cases x with
  | «at» a => exact RA.ren ho hM h
  | ag cs => obtain ⟨us, h1, h2⟩ := h; exact ⟨us, h1, h2.ren ho hM⟩
  | tp xs => exact h

theorem RV.ren (ho : RenOk g.nx r iv) (hM : ∀ k, EntRel g w F m lam k (m k)) {x : AV} {u : Value} (h : RV w F m lam x u) : RV w F (renM r iv m) (renL r lam) (renV iv m x) u := by
  cases x with
  | «at» a => exact RA.ren ho hM h
  | ag cs => exact RV1.ren (x := .ag cs) ho hM h
  | tp xs =>
    obtain ⟨us, h1, h2, h3⟩ := h
    refine ⟨us, h1, by simpa using h2, fun i x y hx hy => ?_⟩
    rw [List.getElem?_map] at hx
    cases hc : xs[i]? with
    | none => simp [hc] at hx
    | some x0 =>
      simp only [hc, Option.map_some, Option.some.injEq] at hx; subst hx
      exact (h3 i x0 y hc hy).ren ho hM

theorem EntRel.ren (ho : RenOk g.nx r iv) (hM : ∀ k, EntRel g w F m lam k (m k)) {k k0 : Nat} (hr : r k = some k0) {e : Ent} (h : EntRel g w F m lam k0 e) : EntRel g w F (renM r iv m) (renL r lam) k (renE iv m e) := by
  have hl : renL r lam k = lam k0 := by simp [renL, hr]
  have hh : ∀ b, Home g k0 b → Home g k b := by
    intro b hb
    by_cases hk : k < g.nx
    · have := ho.ext k hk
      rw [hr] at this
      simp only [Option.some.injEq] at this
      subst this; exact hb
    · have := ho.own k k0 (by omega) hr
      exact ⟨fun h => by omega, fun _ => hb.2 this⟩
  cases e with
  | gone => trivial
  | arr ver sz rows =>
    obtain ⟨h1, h2⟩ := h
    refine ⟨h1, ?_⟩
    rcases h2 with h2 | ⟨b, o, cur, ty, h3, h4, h5, h6, h7⟩
    · exact .inl ⟨hl.trans h2.1, h2.2⟩
    · exact .inr ⟨b, o, cur, ty, hl.trans h3, h4, h5, hh b h6, h7⟩
  | ice ver sz rows =>
    obtain ⟨h1, h2⟩ := h
    refine ⟨h1, ?_⟩
    rcases h2 with h2 | ⟨b, o, h3, h4⟩
    · exact .inl ⟨hl.trans h2.1, h2.2⟩
    · exact .inr ⟨b, o, hl.trans h3, h4⟩
  | box ver cells =>
    obtain ⟨b, cur, ty, h3, h4, h5, h6, h7⟩ := h
    exact ⟨b, cur, ty, hl.trans h3, h4, h5, hh b h6, h7.ren ho hM⟩

theorem MemRel.ren (ho : RenOk g.nx r iv) (h : MemRel g w F m lam) : MemRel g w F (renM r iv m) (renL r lam) where
  ent k := by
    show EntRel g w F (renM r iv m) (renL r lam) k (renM r iv m k)
    cases hr : r k with
    | none => simp only [renM, hr]; trivial
    | some k0 =>
      have : renM r iv m k = renE iv m (m k0) := by simp [renM, hr]
      rw [this]
      exact (h.ent k0).ren ho h.ent hr
  inj k k' b o o' h1 h2 h3 h4 := by
    cases hr : r k with
    | none => simp [renM, hr, Ent.live] at h1
    | some k0 =>
      cases hr' : r k' with
      | none => simp [renM, hr', Ent.live] at h2
      | some k1 =>
        simp only [renM, hr, renE_live] at h1
        simp only [renM, hr', renE_live] at h2
        simp only [renL, hr] at h3
        simp only [renL, hr'] at h4
        have := h.inj k0 k1 b o o' h1 h2 h3 h4
        subst this
        exact ho.inj k k' k0 hr hr'

end

/-- What is known, less sharply told; the world stands. -/
def Weak (nx : Nat) (σ σ' : St) : Prop := ∀ (g : G) (F : Nat → Prop) (lam : Lam) (a : Act) (w : World), g.nx = nx → Inv g F lam σ a w → ∃ F' lam', Inv g F' lam' σ' a w

theorem Weak.refl (nx : Nat) (σ : St) : Weak nx σ σ := fun g F lam a w _ h => ⟨F, lam, h⟩
theorem Weak.trans {nx : Nat} {σ σ' σ'' : St} (h : Weak nx σ σ') (h' : Weak nx σ' σ'') : Weak nx σ σ'' := fun g F lam a w hn hI =>
  let ⟨F', lam', hI'⟩ := h g F lam a w hn hI
  h' g F' lam' a w hn hI'

def invOf (nx base : Nat) (ks : List Nat) (k : Nat) : Option Nat := if k < nx then some k else match ks.idxOf? k with | some i => some (base + i) | none => none
def rOf (nx base : Nat) (ks : List Nat) (k : Nat) : Option Nat := if k < nx then some k else if base ≤ k then ks[k - base]? else none

theorem idxOf?_some {ks : List Nat} {k i : Nat} (h : ks.idxOf? k = some i) : ks[i]? = some k := by
  induction ks generalizing i with
  | nil => simp at h
  | cons x ks ih =>
    rw [List.idxOf?_cons] at h
    split at h
    · rename_i hx
      simp only [Option.some.injEq] at h; subst h
      simpa using hx
    · cases hi : ks.idxOf? k with
      | none => simp [hi] at h
      | some j => simp [hi] at h; subst h; simpa using ih hi

theorem RenOk.of (nx base : Nat) (ks : List Nat) (hnx : nx ≤ base) (hnd : ks.Nodup) (hown : ∀ k ∈ ks, nx ≤ k) : RenOk nx (rOf nx base ks) (invOf nx base ks) where
  iv k k' h := by
    unfold invOf at h
    split at h
    · simp only [Option.some.injEq] at h; subst h; simp [rOf, *]
    · split at h
      · rename_i i hi
        simp only [Option.some.injEq] at h; subst h
        have := idxOf?_some hi
        rw [rOf, if_neg (by omega), if_pos (by omega), Nat.add_sub_cancel_left]
        exact this
      · cases h
  inj k k' k0 h h' := by
    unfold rOf at h h'
    split at h
    · rename_i hk
      simp only [Option.some.injEq] at h; subst h
      split at h'
      · simpa using h'.symm
      · split at h'
        · have := hown _ (List.mem_of_getElem? h'); omega
        · cases h'
    · split at h
      · split at h'
        · simp only [Option.some.injEq] at h'; subst h'
          have := hown _ (List.mem_of_getElem? h); omega
        · split at h'
          · have h1 := (List.getElem?_eq_some_iff.1 h).1
            have := (List.getElem?_inj h1 hnd).1 (h.trans h'.symm)
            omega
          · cases h'
      · cases h
  ext k h := by simp [rOf, h]
  own k k0 h h' := by
    unfold rOf at h'
    rw [if_neg (by omega)] at h'
    split at h'
    · exact hown _ (List.mem_of_getElem? h')
    · cases h'

def ofT : List (Nat × AV) → Nat → AV
  | [], _ => .at .dead
  | (k, x) :: l, t => if t = k then x else ofT l t
def ofM (nx base : Nat) (ext es : List Ent) : Mem := fun k => if k < nx then ext.getD k .gone else if base ≤ k then es.getD (k - base) .gone else .gone

/-- The frame at a loop's head: the slots that live, the keys that are kept, by new names. -/
def canon (nx base : Nat) (live ks : List Nat) (σ : St) : St :=
  ⟨ofT (live.map fun t => (t, renV (invOf nx base ks) σ.m (σ.t t))),
   ofM nx base ((List.range nx).map fun k => renE (invOf nx base ks) σ.m (σ.m k)) (ks.map fun k => renE (invOf nx base ks) σ.m (σ.m k))⟩

theorem ofM_renM (nx base : Nat) (ks : List Nat) (m : Mem) (hnx : nx ≤ base) : ofM nx base ((List.range nx).map fun k => renE (invOf nx base ks) m (m k)) (ks.map fun k => renE (invOf nx base ks) m (m k)) = renM (rOf nx base ks) (invOf nx base ks) m := by
  funext k
  unfold ofM renM rOf
  by_cases h : k < nx
  · rw [if_pos h, if_pos h]
    simp [List.getD, h]
  · rw [if_neg h, if_neg h]
    by_cases hb : base ≤ k
    · rw [if_pos hb, if_pos hb]
      simp only [List.getD, List.getElem?_map]
      cases ks[k - base]? <;> simp
    · rw [if_neg hb, if_neg hb]

theorem RV_ofT {w : World} {F : Nat → Prop} {m : Mem} {lam : Lam} {vs : Nat → Value} (live : List Nat) (f : Nat → AV) (h : ∀ t, RV w F m lam (f t) (vs t)) (t : Nat) : RV w F m lam (ofT (live.map fun t => (t, f t)) t) (vs t) := by
  induction live with
  | nil => trivial
  | cons k live ih =>
    simp only [List.map_cons, ofT]
    by_cases hk : t = k
    · rw [if_pos hk]; subst hk; exact h t
    · rw [if_neg hk]; exact ih

theorem Weak.canon {nx base : Nat} (live ks : List Nat) (σ : St) (hnx : nx ≤ base) (hnd : ks.Nodup) (hown : ∀ k ∈ ks, nx ≤ k) : Weak nx σ (canon nx base live ks σ) := by
  intro g F lam a w hn hI
  subst hn
  have ho := RenOk.of g.nx base ks hnx hnd hown
  refine ⟨F, renL (rOf g.nx base ks) lam, ?_⟩
  unfold Abs.canon
  rw [ofM_renM _ _ _ _ hnx]
  exact {
    f1 := hI.f1, f2 := hI.f2, f3 := hI.f3
    mem := hI.mem.ren ho
    l0 := fun k hk => by simp only [renL, ho.ext k hk]; exact hI.l0 k hk
    sl := fun t => RV_ofT live (fun t => renV (invOf g.nx base ks) σ.m (σ.t t)) (fun t => (hI.sl t).ren ho hI.mem.ent) t
    nt := hI.nt, chg := hI.chg, df := hI.df }

/-- An array of our own is not written any more. -/
theorem Weak.freeze {nx k ver sz : Nat} {rows : List (List Value)} (σ : St) (hm : σ.m k = .arr ver sz rows) (hnx : nx ≤ k) : Weak nx σ ⟨σ.t, upd σ.m k (.ice ver sz rows)⟩ := by
  intro g F lam a w hn hI
  subst hn
  have he := hI.mem.ent k
  rw [hm] at he
  obtain ⟨hw, he⟩ := he
  have main : ∀ F' : Nat → Prop, (∀ b, F b → F' b) → (∀ b, b < g.w0.heap.size → F' b → g.F0 b) → (∀ b, F' b → b < w.heap.size) →
      (∀ k' b o, k' ≠ k → (σ.m k').live → lam k' = some (b, o) → ¬ F' b) → EntRel g w F' (upd σ.m k (.ice ver sz rows)) lam k (.ice ver sz rows) → Inv g F' lam ⟨σ.t, upd σ.m k (.ice ver sz rows)⟩ a w := by
    intro F' h1 h2 h3 h4 h5
    have L : Le w w F F' σ.m (upd σ.m k (.ice ver sz rows)) lam lam := by
      refine ⟨fun b hb => ⟨h1 b hb, rfl⟩, fun _ => Nat.le_refl _, fun k' hk => ?_, fun k' hk => ?_, fun k' v s r hk _ h => ⟨rfl, ?_⟩, fun k' v cs hk _ h => ⟨rfl, ?_⟩⟩
      · by_cases hkk : k' = k
        · subst hkk; rw [upd_same]; simp
        · rw [upd_ne _ _ hkk]; exact hk
      · by_cases hkk : k' = k
        · subst hkk; rw [upd_same, hm]; simp [Ent.ver]
        · rw [upd_ne _ _ hkk]; exact Nat.le_refl _
      · by_cases hkk : k' = k
        · subst hkk; rw [upd_same] at h
          simp only [reduceCtorEq, Ent.ice.injEq, false_or] at h
          obtain ⟨rfl, rfl, rfl⟩ := h
          exact ⟨_, .inl hm, rfl⟩
        · rw [upd_ne _ _ hkk] at h; exact ⟨r, h, rfl⟩
      · by_cases hkk : k' = k
        · subst hkk; rw [upd_same] at h; cases h
        · rw [upd_ne _ _ hkk] at h; exact ⟨cs, h⟩
    exact {
      f1 := fun b hb => h1 b (hI.f1 b hb), f2 := h2, f3 := h3
      mem := hI.mem.turn L k (fun k' hne => ⟨upd_ne _ _ hne, rfl⟩) (fun k' b o hne hl hlk => ⟨rfl, h4 k' b o hne hl hlk⟩) (by dsimp only; rw [upd_same]; exact h5) (fun k' b o o' hne hl hlk h6 _ => by dsimp only at h6; rw [upd_same] at h6; exact h6.elim)
      l0 := hI.l0
      sl := fun t => (hI.sl t).le L
      nt := hI.nt, chg := hI.chg, df := hI.df }
  rcases he with ⟨hlk, hr⟩ | ⟨b, o, cur, ty, hlk, hg, hF, hh, ho, hc, h1⟩
  · exact ⟨F, lam, main F (fun _ h => h) hI.f2 hI.f3 (fun k' b o _ hl hlk => ((hI.mem.ent k').block' hl hlk).1) ⟨hw, .inl ⟨hlk, hr⟩⟩⟩
  · refine ⟨fun x => F x ∨ x = b, lam, main _ (fun _ h => .inl h) ?_ ?_ ?_ ⟨hw, .inr ⟨b, o, hlk, .inr rfl, cells_of_arr hg hc h1⟩⟩⟩
    · rintro x hx (h | rfl)
      · exact hI.f2 x hx h
      · have := hh.2 hnx; omega
    · rintro x (h | rfl)
      · exact hI.f3 x h
      · exact (Array.getElem?_eq_some_iff.1 hg).1
    · rintro k' b' o' hne hl hlk' (h | rfl)
      · exact ((hI.mem.ent k').block' hl hlk').1 h
      · exact hne (hI.mem.inj _ _ _ _ _ hl (by rw [hm]; trivial) hlk' hlk)

/-- A nil slice in a slot is an array of our own that has nothing yet. -/
theorem Weak.own {nx t κ sz : Nat} (σ : St) (ht : σ.t t = .at .nil) (hm : σ.m κ = .gone) (hnx : nx ≤ κ) : Weak nx σ ⟨upd σ.t t (.at (.ow κ 0 sz 0)), upd σ.m κ (.arr 0 sz [])⟩ := by
  intro g F lam a w hn hI
  subst hn
  have L : Le w w F F σ.m (upd σ.m κ (.arr 0 sz [])) lam (upd lam κ none) := by
    refine ⟨fun b hb => ⟨hb, rfl⟩, fun _ => Nat.le_refl _, fun k hk => ?_, fun k hk => ?_, fun k v s r hk _ h => ?_, fun k v cs hk _ h => ?_⟩ <;>
      have hne : k ≠ κ := (fun e => by subst e; exact hk hm)
    · rw [upd_ne _ _ hne]; exact hk
    · rw [upd_ne _ _ hne]; exact Nat.le_refl _
    · rw [upd_ne _ _ hne] at h ⊢; exact ⟨rfl, r, h, rfl⟩
    · rw [upd_ne _ _ hne] at h ⊢; exact ⟨rfl, cs, h⟩
  have hu := hI.sl t
  rw [ht] at hu
  refine ⟨F, upd lam κ none, {
    f1 := hI.f1, f2 := hI.f2, f3 := hI.f3
    mem := hI.mem.turn L κ (fun k hne => ⟨upd_ne _ _ hne, upd_ne _ _ hne⟩) (fun k b o hne hl hlk => ⟨rfl, ((hI.mem.ent k).block' hl hlk).1⟩) (by dsimp only; rw [upd_same]; exact ⟨(by intro r hr; cases hr), .inl ⟨upd_same _ _ _, rfl⟩⟩) (by
      intro k b o o' _ _ _ _ h; rw [upd_same] at h; cases h)
    l0 := fun k hk => by rw [upd_ne _ _ (by omega)]; exact hI.l0 k hk
    sl := fun t' => ?_
    nt := hI.nt, chg := hI.chg, df := hI.df }⟩
  by_cases htt : t' = t
  · subst htt
    show RV w F (upd σ.m κ (.arr 0 sz [])) (upd lam κ none) (upd σ.t t' _ t') _
    rw [upd_same]
    have hu' : a.tmps.getD t' undef = .slice none 0 0 := hu
    rw [hu']
    refine ⟨by rw [upd_same]; simp [Ent.ver], .inl ⟨rfl, rfl⟩, fun s' r' h' => ?_⟩
    rw [upd_same] at h'
    simp only [Ent.arr.injEq, true_and, reduceCtorEq, or_false] at h'
    obtain ⟨rfl, rfl⟩ := h'
    exact ⟨rfl, rfl, .inl ⟨upd_same _ _ _, rfl⟩⟩
  · show RV w F (upd σ.m κ (.arr 0 sz [])) (upd lam κ none) (upd σ.t t _ t') _
    rw [upd_ne _ _ htt]
    exact (hI.sl t').le L

/-- A key that nothing names is an array of our own that has nothing yet. -/
theorem Weak.key {nx κ sz : Nat} (σ : St) (hm : σ.m κ = .gone) (hnx : nx ≤ κ) : ∀ (g : G) (F : Nat → Prop) (lam : Lam) (a : Act) (w : World), g.nx = nx → Inv g F lam σ a w → Inv g F (upd lam κ none) ⟨σ.t, upd σ.m κ (.arr 0 sz [])⟩ a w := by
  intro g F lam a w hn hI
  subst hn
  have L : Le w w F F σ.m (upd σ.m κ (.arr 0 sz [])) lam (upd lam κ none) := by
    refine ⟨fun b hb => ⟨hb, rfl⟩, fun _ => Nat.le_refl _, fun k hk => ?_, fun k hk => ?_, fun k v s r hk _ h => ?_, fun k v cs hk _ h => ?_⟩ <;>
      have hne : k ≠ κ := (fun e => by subst e; exact hk hm)
    · rw [upd_ne _ _ hne]; exact hk
    · rw [upd_ne _ _ hne]; exact Nat.le_refl _
    · rw [upd_ne _ _ hne] at h ⊢; exact ⟨rfl, r, h, rfl⟩
    · rw [upd_ne _ _ hne] at h ⊢; exact ⟨rfl, cs, h⟩
  exact {
    f1 := hI.f1, f2 := hI.f2, f3 := hI.f3
    mem := hI.mem.turn L κ (fun k hne => ⟨upd_ne _ _ hne, upd_ne _ _ hne⟩) (fun k b o hne hl hlk => ⟨rfl, ((hI.mem.ent k).block' hl hlk).1⟩) (by dsimp only; rw [upd_same]; exact ⟨(by intro r hr; cases hr), .inl ⟨upd_same _ _ _, rfl⟩⟩) (by
      intro k b o o' _ _ _ _ h; rw [upd_same] at h; cases h)
    l0 := fun k hk => by rw [upd_ne _ _ (by omega)]; exact hI.l0 k hk
    sl := fun t' => (hI.sl t').le L
    nt := hI.nt, chg := hI.chg, df := hI.df }

/-- A nil slice in a box is an array of our own that has nothing yet. -/
theorem Weak.ownBox {nx k v j κ sz : Nat} {cells : List A} (σ : St) (hk : σ.m k = .box v cells) (hj : cells[j]? = some .nil) (hm : σ.m κ = .gone) (hnx : nx ≤ κ) :
    Weak nx σ ⟨σ.t, upd (upd σ.m κ (.arr 0 sz [])) k (.box v (cells.set j (.ow κ 0 sz 0)))⟩ := by
  intro g F lam a w hn hI0
  have hI := Weak.key (sz := sz) σ hm hnx g F lam a w hn hI0
  have hne : κ ≠ k := by rintro rfl; rw [hk] at hm; cases hm
  have hκ : (upd σ.m κ (.arr 0 sz [])) κ = .arr 0 sz [] := upd_same _ _ _
  have hbk : (upd σ.m κ (.arr 0 sz [])) k = .box v cells := by rw [upd_ne _ _ (Ne.symm hne)]; exact hk
  have hlκ : (upd lam κ none) κ = none := upd_same _ _ _
  generalize upd lam κ none = lam1 at hI hlκ
  generalize hm1 : upd σ.m κ (.arr 0 sz []) = m1 at hI hκ hbk ⊢
  have L : Le w w F F m1 (upd m1 k (.box v (cells.set j (.ow κ 0 sz 0)))) lam1 lam1 := by
    refine ⟨fun b hb => ⟨hb, rfl⟩, fun _ => Nat.le_refl _, fun k' hk' => ?_, fun k' hk' => ?_, fun k' v' s r hk' _ h => ?_, fun k' v' cs hk' _ h => ?_⟩
    · by_cases e : k' = k
      · subst e; rw [upd_same]; simp
      · rw [upd_ne _ _ e]; exact hk'
    · by_cases e : k' = k
      · subst e; rw [upd_same, hbk]; simp [Ent.ver]
      · rw [upd_ne _ _ e]; exact Nat.le_refl _
    · by_cases e : k' = k
      · subst e; rw [upd_same] at h; rcases h with h | h <;> cases h
      · rw [upd_ne _ _ e] at h; exact ⟨rfl, r, h, rfl⟩
    · by_cases e : k' = k
      · subst e; rw [upd_same] at h; cases h; exact ⟨rfl, cells, hbk⟩
      · rw [upd_ne _ _ e] at h; exact ⟨rfl, cs, h⟩
  have hlive : ∀ k', ((upd m1 k (.box v (cells.set j (.ow κ 0 sz 0)))) k').live → (m1 k').live := by
    intro k' h
    by_cases e : k' = k
    · subst e; rw [hbk]; trivial
    · rw [upd_ne _ _ e] at h; exact h
  refine ⟨F, lam1, {
    f1 := hI.f1, f2 := hI.f2, f3 := hI.f3
    mem := ⟨fun k' => ?_, fun k1 k2 b o o' h1 h2 h3 h4 => hI.mem.inj k1 k2 b o o' (hlive _ h1) (hlive _ h2) h3 h4⟩
    l0 := hI.l0, sl := fun t' => (hI.sl t').le L
    nt := hI.nt, chg := hI.chg, df := hI.df }⟩
  by_cases e : k' = k
  · subst e
    have he := hI.mem.ent k'
    dsimp only at he ⊢
    rw [hbk] at he
    rw [upd_same]
    obtain ⟨b, cur, ty, h1, h2, h3, h4, h5⟩ := he
    refine ⟨b, cur, ty, h1, h2, h3, h4, by rw [List.length_set]; exact h5.1, fun i x u hx hu => ?_⟩
    rw [List.getElem?_set] at hx
    split at hx
    · rename_i hij
      subst hij
      split at hx
      · simp only [Option.some.injEq] at hx
        subst hx
        have h6 := h5.2 j _ u hj hu
        have hu0 : u = .slice none 0 0 := h6.1
        subst hu0
        refine ⟨⟨?_, .inl ⟨rfl, rfl⟩, fun s' r' h' => ?_⟩, rfl⟩
        · rw [upd_ne _ _ hne, hκ]; simp [Ent.ver]
        · rw [upd_ne _ _ hne, hκ] at h'
          simp only [Ent.arr.injEq, true_and, reduceCtorEq, or_false] at h'
          obtain ⟨rfl, rfl⟩ := h'
          exact ⟨rfl, rfl, .inl ⟨hlκ, rfl⟩⟩
      · cases hx
    · have h6 := h5.2 i x u hx hu
      exact ⟨RA.le L h6.1, h6.2⟩
  · dsimp only
    rw [upd_ne _ _ e]
    exact (hI.mem.ent k').keep L rfl fun b o hl hlk => ⟨rfl, ((hI.mem.ent k').block' hl hlk).1⟩
end Go.Abs

/- What a function is known to do, and what a call of it leaves in the caller's frame. -/
namespace Go.Abs
open Go.RowKit
set_option linter.unusedVariables false
set_option linter.unusedSimpArgs false

def instA (n : Nat) : A → A × Nat
  | .fr sz rows => (.ow n 0 sz rows.length, n + 1)
  | .fb _ => (.bx n 0 0, n + 1)
  | a => (a, n)
def instL (n : Nat) : List A → List A × Nat
  | [] => ([], n)
  | a :: as => ((instA n a).1 :: (instL (instA n a).2 as).1, (instL (instA n a).2 as).2)
def inst1 (n : Nat) : AV → AV × Nat
  | .at a => (.at (instA n a).1, (instA n a).2)
  | .ag cs => (.ag (instL n cs).1, (instL n cs).2)
  | .tp xs => (.tp xs, n)
def instT (n : Nat) : List AV → List AV × Nat
  | [] => ([], n)
  | x :: xs => ((inst1 n x).1 :: (instT (inst1 n x).2 xs).1, (instT (inst1 n x).2 xs).2)
def instV (n : Nat) : AV → AV
  | .tp xs => .tp (instT n xs).1
  | x => (inst1 n x).1

def freshA : A → List Ent
  | .fr sz rows => [.arr 0 sz rows]
  | .fb cs => [.box 0 (cs.map PC.at)]
  | _ => []
def fresh1 : AV → List Ent
  | .at a => freshA a
  | .ag cs => cs.flatMap freshA
  | .tp _ => []
def freshes : AV → List Ent
  | .tp xs => xs.flatMap fresh1
  | x => fresh1 x

def gOf (P : Program) (w : World) (F : Nat → Prop) (lam : Lam) (nx nt : Nat) : G := ⟨P, w, F, fun b => ∃ k o, k < nx ∧ lam k = some (b, o), nx, lam, nt⟩

/-- What is known of a function: called with such values it returns such a one; what it was handed as its own may have turned, all else stands. -/
def Callable (P : Program) (f : FuncId) : Prop := ∃ fn, P.funcs[f]? = some fn ∧ (fn.name == "runtime.NumGoroutine") = false ∧ fn.body.isNone = false

def SC (P : Program) (f : FuncId) (args : List AV) (ext : List Ent) (res : AV) (ext' : List Ent) : Prop :=
  Callable P f ∧ ∀ (w : World) (F : Nat → Prop) (lam : Lam) (us : List Value),
    (∀ b, F b → b < w.heap.size) →
    MemRel (gOf P w F lam ext.length 0) w F (ofM ext.length 1000 ext []) lam →
    args.length = us.length → (∀ (i : Nat) (x : AV) (u : Value), args[i]? = some x → us[i]? = some u → RV1 w F (ofM ext.length 1000 ext []) lam x u) →
    Calls P f us.toArray w fun e w' => ∃ v F' lam', e = .returned v ∧ (∀ b, F b → F' b) ∧ (∀ b, b < w.heap.size → F' b → F b) ∧ (∀ b, F' b → b < w'.heap.size) ∧
      Chg (gOf P w F lam ext.length 0) w' ∧ (∀ k, k < ext.length → lam' k = lam k) ∧
      MemRel (gOf P w F lam ext.length 0) w' F' (ofM ext.length 1000 ext' (freshes res)) lam' ∧ RV w' F' (ofM ext.length 1000 ext' (freshes res)) lam' (instV 1000 res) v

def A.plain : A → Bool
  | .v _ => true
  | .im _ _ => true
  | .nil => true
  | .er => true
  | .dead => true
  | _ => false
def A.noIm : A → Bool
  | .im _ _ => false
  | .fb _ => false
  | .pi _ => false
  | _ => true
def AV.noIm1 : AV → Bool
  | .at a => a.noIm
  | .ag cs => cs.all A.noIm
  | .tp _ => false
def AV.noIm : AV → Bool
  | .tp xs => xs.all AV.noIm1
  | x => x.noIm1
def Ent.noIm : Ent → Bool
  | .box _ cells => cells.all A.noIm
  | _ => true
def Ent.plain : Ent → Bool
  | .arr .. => true
  | .box _ cells => cells.all A.plain
  | _ => false

def passA (keys bor : List Nat) (m : Mem) : A → A
  | .ow k ver sz n =>
    match keys.idxOf? k with
    | some i => match m k with | .arr ver' _ _ => if ver = ver' then .ow i 0 sz n else .dead | _ => .dead
    | none => match m k with
      | .arr ver' sz' rows => if ver = ver' ∧ sz = sz' ∧ k ∈ bor then .im sz rows else .dead
      | .ice ver' sz' rows => if ver = ver' ∧ sz = sz' then .im sz rows else .dead
      | _ => .dead
  | .bx k ver off =>
    match keys.idxOf? k with
    | some i => match m k with | .box ver' _ => if ver = ver' then .bx i 0 off else .dead | _ => .dead
    | none => .dead
  | .pa .. => .dead
  | .vw .. => .dead
  | a => a
def passV (keys bor : List Nat) (m : Mem) : AV → AV
  | .at a => .at (passA keys bor m a)
  | .ag cs => .ag (cs.map (passA keys bor m))
  | .tp xs => .at .dead
def extE : Ent → Ent
  | .arr _ sz rows => .arr 0 sz rows
  | .box _ cells => .box 0 cells
  | _ => .gone
def exts (keys : List Nat) (m : Mem) : List Ent := keys.map fun k => extE (m k)

/-- Less sharply told, cell by cell: a nil slice is one without elements. -/
def subA : A → A → Prop
  | .nil, .im _ [] => True
  | .im _ [], .im _ [] => True
  | _, .dead => True
  | a, b => a = b
def subL : List A → List A → Prop
  | [], [] => True
  | a :: as, b :: bs => subA a b ∧ subL as bs
  | _, _ => False
def subV : AV → AV → Prop
  | .at a, .at b => subA a b
  | .ag as, .ag bs => subL as bs
  | _, _ => False
def subT : List AV → List AV → Prop
  | [], [] => True
  | x :: xs, y :: ys => subV x y ∧ subT xs ys
  | _, _ => False

section
variable {w : World} {F : Nat → Prop} {m : Mem} {lam : Lam}

theorem RA.sub {a b : A} {u : Value} (h : subA a b) (hR : RA w F m lam a u) : RA w F m lam b u := by
  unfold subA at h
  split at h
  · cases hR
    exact ⟨(by intro r hr; cases hr), none, 0, rfl, Nat.le_refl _, Nat.zero_le _, .inl rfl⟩
  · obtain ⟨_, a, cap, h1, h2, h3, _⟩ := hR
    exact ⟨(by intro r hr; cases hr), a, cap, h1, h2, h3, .inl rfl⟩
  · trivial
  · subst h; exact hR

theorem RL.sub {as bs : List A} {us : List Value} (h : subL as bs) (hR : RL (fun a x => RA w F m lam a x ∧ x.oneCell' = true) as us) : RL (fun a x => RA w F m lam a x ∧ x.oneCell' = true) bs us := by
  have key : as.length = bs.length ∧ ∀ (i : Nat) (a b : A), as[i]? = some a → bs[i]? = some b → subA a b := by
    induction as generalizing bs us with
    | nil => cases bs with
      | nil => exact ⟨rfl, by simp⟩
      | cons b bs => exact h.elim
    | cons a as ih => cases bs with
      | nil => exact h.elim
      | cons b bs =>
        cases us with
        | nil => have := hR.1; simp at this
        | cons u us =>
          obtain ⟨h1, h2⟩ := ih h.2 (us := us) ⟨by have := hR.1; simpa using this, fun i a u ha hu => hR.2 (i + 1) a u (by simpa using ha) (by simpa using hu)⟩
          refine ⟨by simp [h1], fun i x y hx hy => ?_⟩
          cases i with
          | zero => simp at hx hy; subst hx; subst hy; exact h.1
          | succ i => exact h2 i x y (by simpa using hx) (by simpa using hy)
  refine ⟨key.1 ▸ hR.1, fun i b u hb hu => ?_⟩
  have hi : i < as.length := by rw [key.1]; exact (List.getElem?_eq_some_iff.1 hb).1
  have := hR.2 i as[i] u (List.getElem?_eq_getElem hi) hu
  exact ⟨this.1.sub (key.2 i _ _ (List.getElem?_eq_getElem hi) hb), this.2⟩

theorem RV1.sub {x y : AV} {u : Value} (h : subV x y) (hR : RV1 w F m lam x u) : RV1 w F m lam y u := by
  cases x with
  | «at» a => cases y with
    | «at» b => exact RA.sub h hR
    | _ => exact h.elim
  | ag as => cases y with
    | ag bs => obtain ⟨us, h1, h2⟩ := hR; exact ⟨us, h1, h2.sub h⟩
    | _ => exact h.elim
  | tp xs => exact h.elim
end

theorem ofM_ext {nx : Nat} {ext es : List Ent} {k : Nat} (h : k < nx) : ofM nx 1000 ext es k = ext.getD k .gone := by simp [ofM, h]
theorem ofM_fresh {nx : Nat} {ext es : List Ent} {j : Nat} (h : nx ≤ 1000) : ofM nx 1000 ext es (1000 + j) = es.getD j .gone := by
  simp only [ofM]; rw [if_neg (by omega), if_pos (by omega), Nat.add_sub_cancel_left]

theorem getD_map {β γ : Type} (f : β → γ) (l : List β) (k : Nat) (d : γ) (h : k < l.length) : (l.map f).getD k d = f (l[k]) := by simp [List.getD, h]

/-- The conditions at a call: what is handed over as the callee's own, what is lent. -/
structure CallOk (nx : Nat) (m : Mem) (keys bor : List Nat) (fz : Bool) (B : Nat) : Prop where
  nd : keys.Nodup
  few : keys.length ≤ 900
  key : ∀ k ∈ keys, (m k).plain = true
  bor : ∀ k ∈ bor, (∃ ver sz rows, m k = .arr ver sz rows) ∧ k ∉ keys ∧ (fz = true → nx ≤ k)
  site : ∀ j, j < 16 → m (B + j) = .gone
  base : nx ≤ B

section
variable {g : G} {F : Nat → Prop} {lam : Lam} {σ : St} {a : Act} {w : World} {keys bor : List Nat} {fz : Bool} {B : Nat}

def lamC (keys : List Nat) (lam : Lam) : Lam := fun i => (keys[i]?).bind lam
def FC (bor : List Nat) (lam : Lam) (F : Nat → Prop) : Nat → Prop := fun b => F b ∨ ∃ k ∈ bor, ∃ o, lam k = some (b, o)

theorem plain_live {e : Ent} (h : e.plain = true) : e.live := by cases e <;> simp_all [Ent.plain, Ent.live]

theorem not_FC (hI : Inv g F lam σ a w) (ho : CallOk g.nx σ.m keys bor fz B) {k b o : Nat} (hl : (σ.m k).live) (hk : lam k = some (b, o)) (hb : k ∉ bor) : ¬ FC bor lam F b := by
  rintro (h | ⟨k', hk', o', hl'⟩)
  · exact ((hI.mem.ent k).block' hl hk).1 h
  · obtain ⟨⟨v, s, r, hm⟩, _⟩ := ho.bor k' hk'
    have := hI.mem.inj k k' b o o' hl (by rw [hm]; trivial) hk hl'
    subst this
    exact hb hk'

theorem RA_plain {F' : Nat → Prop} {m m' : Mem} {lam lam' : Lam} {a : A} {u : Value} (hF : ∀ b, F b → F' b) (hp : a.plain = true) (h : RA w F m lam a u) : RA w F' m' lam' a u := by
  cases a <;> simp only [A.plain, Bool.false_eq_true] at hp
  · exact h
  · obtain ⟨h1, A0, cap, h2, h3, h4, h5⟩ := h
    refine ⟨h1, A0, cap, h2, h3, h4, ?_⟩
    rcases h5 with h5 | ⟨b, o, h5, h6, h7⟩
    · exact .inl h5
    · exact .inr ⟨b, o, h5, hF b h6, h7⟩
  · exact h
  · exact h
  · trivial

theorem call_mem (hI : Inv g F lam σ a w) (ho : CallOk g.nx σ.m keys bor fz B) :
    MemRel (gOf g.P w (FC bor lam F) (lamC keys lam) (exts keys σ.m).length 0) w (FC bor lam F) (ofM (exts keys σ.m).length 1000 (exts keys σ.m) []) (lamC keys lam) where
  ent i := by
    have hlen : (exts keys σ.m).length = keys.length := by simp [exts]
    by_cases hi : i < keys.length
    · have hk := List.getElem_mem hi
      have hm : ofM (exts keys σ.m).length 1000 (exts keys σ.m) [] i = extE (σ.m keys[i]) := by
        rw [ofM_ext (by omega)]; exact getD_map _ _ _ _ hi
      have hlc : lamC keys lam i = lam keys[i] := by simp [lamC, hi]
      rw [hm]
      have hpl := ho.key _ hk
      have he := hI.mem.ent keys[i]
      have hnb : keys[i] ∉ bor := fun h => (ho.bor _ h).2.1 hk
      cases hmk : σ.m keys[i] with
      | gone => rw [hmk] at hpl; cases hpl
      | ice ver sz rows => rw [hmk] at hpl; cases hpl
      | arr ver sz rows =>
        rw [hmk] at he
        obtain ⟨h1, h2⟩ := he
        refine ⟨h1, ?_⟩
        rcases h2 with h2 | ⟨b, o, cur, ty, h3, h4, h5, h6, h7⟩
        · exact .inl ⟨hlc.trans h2.1, h2.2⟩
        · refine .inr ⟨b, o, cur, ty, hlc.trans h3, h4, not_FC hI ho (by rw [hmk]; trivial) h3 hnb, ⟨fun _ => ⟨i, o, by rw [hlen]; exact hi, hlc.trans h3⟩, fun h => ?_⟩, h7⟩
          simp only [gOf, hlen] at h; omega
      | box ver cells =>
        rw [hmk] at he
        obtain ⟨b, cur, ty, h3, h4, h5, h6, h7⟩ := he
        refine ⟨b, cur, ty, hlc.trans h3, h4, not_FC hI ho (by rw [hmk]; trivial) h3 hnb, ⟨fun _ => ⟨i, 0, by rw [hlen]; exact hi, hlc.trans h3⟩, fun h => ?_⟩, h7.1, fun j A0 u hA hu => ?_⟩
        · simp only [gOf, hlen] at h; omega
        · have := h7.2 j A0 u hA hu
          rw [hmk] at hpl
          simp only [Ent.plain, List.all_eq_true] at hpl
          exact ⟨RA_plain (fun b h => .inl h) (hpl A0 (List.mem_of_getElem? hA)) this.1, this.2⟩
    · have hm : ofM (exts keys σ.m).length 1000 (exts keys σ.m) [] i = .gone := by
        unfold ofM; rw [if_neg (by omega)]; split <;> simp
      rw [hm]; trivial
  inj i i' b o o' h1 h2 h3 h4 := by
    have hlen : (exts keys σ.m).length = keys.length := by simp [exts]
    have cas : ∀ i, (ofM (exts keys σ.m).length 1000 (exts keys σ.m) [] i).live → ∃ h : i < keys.length, (σ.m keys[i]).live ∧ lamC keys lam i = lam keys[i] := by
      intro i hl
      by_cases hi : i < keys.length
      · exact ⟨hi, plain_live (ho.key _ (List.getElem_mem hi)), by simp [lamC, hi]⟩
      · have hm : ofM (exts keys σ.m).length 1000 (exts keys σ.m) [] i = .gone := by
          unfold ofM; rw [if_neg (by omega)]; split <;> simp
        rw [hm] at hl; exact hl.elim
    obtain ⟨hi, hl, he⟩ := cas i h1
    obtain ⟨hi', hl', he'⟩ := cas i' h2
    rw [he] at h3; rw [he'] at h4
    have := hI.mem.inj _ _ b o o' hl hl' h3 h4
    exact (List.getElem_inj ho.nd).1 this

theorem RA_pass (hI : Inv g F lam σ a w) (ho : CallOk g.nx σ.m keys bor fz B) {A0 : A} {u : Value} (h : RA w F σ.m lam A0 u) :
    RA w (FC bor lam F) (ofM (exts keys σ.m).length 1000 (exts keys σ.m) []) (lamC keys lam) (passA keys bor σ.m A0) u := by
  have hlen : (exts keys σ.m).length = keys.length := by simp [exts]
  have hext : ∀ i k, keys[i]? = some k → ofM (exts keys σ.m).length 1000 (exts keys σ.m) [] i = extE (σ.m k) ∧ lamC keys lam i = lam k := by
    intro i k hk
    obtain ⟨hi, rfl⟩ := List.getElem?_eq_some_iff.1 hk
    refine ⟨?_, by simp [lamC, hi]⟩
    rw [ofM_ext (by omega)]; exact getD_map _ _ _ _ hi
  cases A0 with
  | ow k ver sz n =>
    simp only [passA]
    split
    · rename_i i hi
      have hki := idxOf?_some hi
      obtain ⟨he, hl⟩ := hext i k hki
      split
      · rename_i ver' sz' rows hm
        split
        · rename_i hv; subst hv
          obtain ⟨_, h3, h4⟩ := h
          obtain ⟨rfl, hn, h5⟩ := h4 _ _ (.inl hm)
          rw [hm] at he
          refine ⟨by rw [he]; simp [extE, Ent.ver], h3, fun s r hmr => ?_⟩
          rw [he] at hmr
          simp only [extE, Ent.arr.injEq, true_and, reduceCtorEq, or_false] at hmr
          obtain ⟨rfl, rfl⟩ := hmr
          rw [hl]
          exact ⟨rfl, hn, h5⟩
        · trivial
      · trivial
    · split
      · rename_i ver' sz' rows hm
        split
        · rename_i hc
          obtain ⟨rfl, rfl, hb⟩ := hc
          obtain ⟨_, _, h4⟩ := h
          obtain ⟨_, rfl, h5⟩ := h4 _ _ (.inl hm)
          have he := hI.mem.ent k
          rw [hm] at he
          obtain ⟨hw, he⟩ := he
          refine ⟨hw, ?_⟩
          rcases h5 with ⟨hl, rfl⟩ | ⟨b, o, cap, hl, rfl, h6, h7, _⟩
          · have hr : rows = [] := by
              rcases he with h | ⟨b, o, cur, ty, h, _⟩
              · exact h.2
              · rw [hl] at h; cases h
            subst hr
            exact ⟨_, _, rfl, Nat.le_refl _, Nat.zero_le _, .inl rfl⟩
          · refine ⟨_, _, rfl, h6, h7, ?_⟩
            rcases he with ⟨h, rfl⟩ | ⟨b', o', cur, ty, h, hg, _, _, _, hc, h1⟩
            · exact .inl rfl
            · rw [hl] at h; simp only [Option.some.injEq, Prod.mk.injEq] at h; obtain ⟨rfl, rfl⟩ := h
              exact .inr ⟨b, o, rfl, .inr ⟨k, hb, o, hl⟩, cells_of_arr hg hc h1⟩
        · trivial
      · rename_i ver' sz' rows hm
        split
        · rename_i hc
          obtain ⟨rfl, rfl⟩ := hc
          have := RA.im_of_ow (g := g) (hI.mem.ent k) h hm
          exact RA_plain (fun b h => .inl h) rfl this
        · trivial
      · trivial
  | bx k ver off =>
    simp only [passA]
    split
    · rename_i i hi
      have hki := idxOf?_some hi
      obtain ⟨he, hl⟩ := hext i k hki
      split
      · rename_i ver' cells hm
        split
        · rename_i hv; subst hv
          obtain ⟨_, h3, h4⟩ := h
          rw [hm] at he
          refine ⟨by rw [he]; simp [extE, Ent.ver], h3, fun cs hmr => ?_⟩
          rw [hl]
          exact h4 _ hm
        · trivial
      · trivial
    · trivial
  | pa k ver sz i off => trivial
  | vw k ver sz off n => trivial
  | fr sz rows => exact h
  | fb cs => exact h
  | pi cs =>
    obtain ⟨b, o, h1, h2, h3⟩ := h
    exact ⟨b, o, h1, .inl h2, h3⟩
  | v x => exact h
  | im sz rows => exact RA_plain (fun b h => .inl h) rfl h
  | nil => exact h
  | er => exact h
  | dead => trivial

theorem RV_pass (hI : Inv g F lam σ a w) (ho : CallOk g.nx σ.m keys bor fz B) {x : AV} {u : Value} (h : RV w F σ.m lam x u) :
    RV1 w (FC bor lam F) (ofM (exts keys σ.m).length 1000 (exts keys σ.m) []) (lamC keys lam) (passV keys bor σ.m x) u := by
  cases x with
  | «at» A0 => exact RA_pass hI ho h
  | ag cs =>
    obtain ⟨us, h1, h2⟩ := h
    refine ⟨us, h1, by simpa using h2.1, fun i A0 u hA hu => ?_⟩
    rw [List.getElem?_map] at hA
    cases hc : cs[i]? with
    | none => simp [hc] at hA
    | some a0 =>
      simp only [hc, Option.map_some, Option.some.injEq] at hA; subst hA
      have := h2.2 i a0 u hc hu
      exact ⟨RA_pass hI ho this.1, this.2⟩
  | tp xs => trivial

end
end Go.Abs

/- What a call leaves in the caller's frame. -/
namespace Go.Abs
open Go.RowKit
set_option linter.unusedVariables false
set_option linter.unusedSimpArgs false

/-- What was handed over, as it comes back. -/
def merge : Ent → Ent → Ent
  | .arr ver sz _, .arr _ _ rows => .arr ver sz rows
  | .box ver _, .box _ cells => .box ver cells
  | e, _ => e
def iceOf : Ent → Ent
  | .arr ver sz rows => .ice ver sz rows
  | e => e
/-- The same kind, the same size. -/
def Ent.like : Ent → Ent → Bool
  | .arr _ sz rows, .arr ver' sz' rows' => ver' == 0 && (sz == sz' && rows.length == rows'.length)
  | .box _ _, .box _ cells => cells.all A.plain
  | _, _ => false

def backM (m : Mem) (keys bor : List Nat) (fz : Bool) (B : Nat) (ext' fs : List Ent) : Mem := fun k =>
  match keys.idxOf? k with
  | some i => merge (m k) (ext'.getD i .gone)
  | none => if fz = true ∧ k ∈ bor then iceOf (m k) else if B ≤ k ∧ k < B + fs.length then fs.getD (k - B) .gone else m k
def backL (lam lam' : Lam) (keys : List Nat) (B n : Nat) : Lam := fun k =>
  match keys.idxOf? k with
  | some _ => lam k
  | none => if B ≤ k ∧ k < B + n then lam' (1000 + (k - B)) else lam k
def backF (bor : List Nat) (fz : Bool) (lam : Lam) (F' : Nat → Prop) : Nat → Prop := fun b => F' b ∧ (fz = false → ∀ k ∈ bor, ∀ o, lam k ≠ some (b, o))

def backA (m : Mem) (keys : List Nat) (B : Nat) : A → A
  | .ow k ver sz n =>
    if ver = 0 then
      if k < keys.length then (match keys[k]? with | some k' => .ow k' (m k').ver sz n | none => .dead)
      else if 1000 ≤ k then .ow (B + (k - 1000)) 0 sz n else .dead
    else .dead
  | .bx k ver off => if ver = 0 ∧ 1000 ≤ k ∧ keys.length ≤ k then .bx (B + (k - 1000)) 0 off else .dead
  | .pa .. => .dead
  | .vw .. => .dead
  | .pi _ => .dead
  | .fr _ _ => .dead
  | .fb _ => .dead
  | a => a
def backV1 (m : Mem) (keys : List Nat) (B : Nat) : AV → AV
  | .at a => .at (backA m keys B a)
  | .ag cs => .ag (cs.map (backA m keys B))
  | .tp xs => .at .dead
def backV (m : Mem) (keys : List Nat) (B : Nat) : AV → AV
  | .tp xs => .tp (xs.map (backV1 m keys B))
  | x => backV1 m keys B x

/-- The conditions at a call's end. -/
structure BackOk (m : Mem) (keys bor : List Nat) (fz : Bool) (ext' fs : List Ent) (res : AV) : Prop where
  len : ext'.length = keys.length
  like : ∀ i k, keys[i]? = some k → (m k).like (ext'.getD i .gone) = true
  few : fs.length ≤ 16
  im : fz = true ∨ bor = [] ∨ (res.noIm = true ∧ ∀ e ∈ ext', e.noIm = true)

theorem idxOf?_of {ks : List Nat} {i k : Nat} (hnd : ks.Nodup) (h : ks[i]? = some k) : ks.idxOf? k = some i := by
  induction ks generalizing i with
  | nil => simp at h
  | cons x ks ih =>
    rw [List.nodup_cons] at hnd
    cases i with
    | zero => simp at h; subst h; simp [List.idxOf?_cons]
    | succ i =>
      have h' : ks[i]? = some k := by simpa using h
      have hne : x ≠ k := by rintro rfl; exact hnd.1 (List.mem_of_getElem? h')
      have hne' : (x == k) = false := by simpa using hne
      simp [List.idxOf?_cons, hne', ih hnd.2 h']

theorem idxOf?_none {ks : List Nat} {k : Nat} (h : ks.idxOf? k = none) : k ∉ ks := by
  intro hm
  induction ks with
  | nil => cases hm
  | cons x ks ih =>
    rw [List.idxOf?_cons] at h
    split at h
    · cases h
    · rename_i hx
      cases hi : ks.idxOf? k with
      | some j => simp [hi] at h
      | none =>
        rcases List.mem_cons.1 hm with rfl | hm
        · simp at hx
        · exact ih hi hm

section
variable {g : G} {F F' : Nat → Prop} {lam lam' : Lam} {σ : St} {a : Act} {w w' : World} {keys bor : List Nat} {fz : Bool} {B : Nat} {ext' fs : List Ent} {res : AV}

theorem freshes_arr (res : AV) : ∀ e ∈ freshes res, (∃ sz rows, e = .arr 0 sz rows) ∨ ∃ cs : List PC, e = .box 0 (cs.map PC.at) ∧ res.noIm = false := by
  have hA : ∀ a : A, ∀ e ∈ freshA a, (∃ sz rows, e = .arr 0 sz rows) ∨ ∃ cs : List PC, e = .box 0 (cs.map PC.at) ∧ a.noIm = false := by
    intro a e he
    cases a <;> simp [freshA] at he
    · exact .inl ⟨_, _, he⟩
    · exact .inr ⟨_, he, rfl⟩
  have h1 : ∀ x : AV, ∀ e ∈ fresh1 x, (∃ sz rows, e = .arr 0 sz rows) ∨ ∃ cs : List PC, e = .box 0 (cs.map PC.at) ∧ x.noIm1 = false := by
    intro x e he
    cases x with
    | «at» a => exact hA a e he
    | ag cs =>
      simp only [fresh1, List.mem_flatMap] at he; obtain ⟨a, ha, he⟩ := he
      rcases hA a e he with h | ⟨c, h1, h2⟩
      · exact .inl h
      · exact .inr ⟨c, h1, List.all_eq_false.2 ⟨a, ha, by simp [h2]⟩⟩
    | tp xs => simp [fresh1] at he
  intro e he
  cases res with
  | «at» a => exact h1 (.at a) e he
  | ag cs => exact h1 (.ag cs) e he
  | tp xs =>
    simp only [freshes, List.mem_flatMap] at he; obtain ⟨x, hx, he⟩ := he
    rcases h1 x e he with h | ⟨c, h1, h2⟩
    · exact .inl h
    · exact .inr ⟨c, h1, List.all_eq_false.2 ⟨x, hx, by simp [h2]⟩⟩
theorem plain_map (cs : List PC) : (cs.map PC.at).all A.plain = true := by
  rw [List.all_eq_true]
  intro a ha
  obtain ⟨c, _, rfl⟩ := List.mem_map.1 ha
  cases c <;> rfl
theorem freshes_ok {m : Mem} {keys bor : List Nat} {fz : Bool} {ext' : List Ent} {res : AV} (hb : BackOk m keys bor fz ext' (freshes res) res) : ∀ e ∈ freshes res, (∃ sz rows, e = Ent.arr 0 sz rows) ∨ ∃ cells, e = Ent.box 0 cells ∧ cells.all A.plain = true ∧ (fz = true ∨ bor = []) := by
  intro e he
  rcases freshes_arr res e he with h | ⟨cs, h1, h2⟩
  · exact .inl h
  · refine .inr ⟨_, h1, plain_map cs, ?_⟩
    rcases hb.im with h | h | h
    · exact .inl h
    · exact .inr h
    · rw [h2] at h; exact absurd h.1 (by simp)

theorem call_back (hI : Inv g F lam σ a w) (ho : CallOk g.nx σ.m keys bor fz B) (hb : BackOk σ.m keys bor fz ext' fs res) (hfs : ∀ e ∈ fs, (∃ sz rows, e = Ent.arr 0 sz rows) ∨ ∃ cells, e = Ent.box 0 cells ∧ cells.all A.plain = true ∧ (fz = true ∨ bor = []))
    (p1 : ∀ b, FC bor lam F b → F' b) (p2 : ∀ b, b < w.heap.size → F' b → FC bor lam F b) (p3 : ∀ b, F' b → b < w'.heap.size)
    (p4 : Chg (gOf g.P w (FC bor lam F) (lamC keys lam) keys.length 0) w') (p5 : ∀ k, k < keys.length → lam' k = lamC keys lam k)
    (p6 : MemRel (gOf g.P w (FC bor lam F) (lamC keys lam) keys.length 0) w' F' (ofM keys.length 1000 ext' fs) lam') :
    Nx g F lam σ.m w (backF bor fz lam F') (backL lam lam' keys B fs.length) (backM σ.m keys bor fz B ext' fs) w' := by
  have hsite : ∀ k, B ≤ k → k < B + fs.length → σ.m k = .gone ∧ g.nx ≤ k := by
    intro k h1 h2
    have := ho.site (k - B) (by have := hb.few; omega)
    rw [show B + (k - B) = k by omega] at this
    exact ⟨this, by have := ho.base; omega⟩
  have hkl : ∀ k ∈ keys, (σ.m k).live := fun k hk => plain_live (ho.key k hk)
  have hX : ∀ k b o, (σ.m k).live → lam k = some (b, o) → k ∉ keys → ¬ (gOf g.P w (FC bor lam F) (lamC keys lam) keys.length 0).X b := by
    rintro k b o hl hlk hk ⟨i, o', hi, hli⟩
    obtain ⟨hlt, hki⟩ : ∃ h : i < keys.length, True := ⟨hi, trivial⟩
    have : lam keys[i] = some (b, o') := by simpa [lamC, hi] using hli
    have := hI.mem.inj _ _ _ _ _ hl (hkl _ (List.getElem_mem hi)) hlk this
    subst this
    exact hk (List.getElem_mem hi)
  have hXF : ∀ b, F b → ¬ (gOf g.P w (FC bor lam F) (lamC keys lam) keys.length 0).X b := by
    rintro b hF ⟨i, o', hi, hli⟩
    have hl : lam keys[i] = some (b, o') := by
      have hi' : i < keys.length := hi
      simpa [lamC, hi'] using hli
    exact ((hI.mem.ent _).block' (hkl _ (List.getElem_mem hi)) hl).1 hF
  have hsame : ∀ k b o, (σ.m k).live → lam k = some (b, o) → k ∉ keys → w'.heap[b]? = w.heap[b]? := by
    intro k b o hl hlk hk
    exact p4.block b ((hI.mem.ent k).block' hl hlk).2 (hX k b o hl hlk hk)
  have hFF : ∀ b, F b → backF bor fz lam F' b := by
    intro b hF
    refine ⟨p1 b (.inl hF), fun _ k hk o hlk => ?_⟩
    obtain ⟨⟨v, s, r, hm⟩, _⟩ := ho.bor k hk
    exact ((hI.mem.ent k).block' (by rw [hm]; trivial) hlk).1 hF
  have hmk : ∀ k, k ∉ keys → keys.idxOf? k = none := by
    intro k hk
    cases h : keys.idxOf? k with
    | none => rfl
    | some i => exact absurd (List.mem_of_getElem? (idxOf?_some h)) hk
  have L : Le w w' F (backF bor fz lam F') σ.m (backM σ.m keys bor fz B ext' fs) lam (backL lam lam' keys B fs.length) := by
    refine ⟨fun b hF => ⟨hFF b hF, p4.block b (hI.f3 b hF) (hXF b hF)⟩, p4.bs, fun k hk => ?_, fun k hk => ?_, fun k v s r hk hv h => ?_, fun k v cs hk hv h => ?_⟩
    · unfold backM
      split
      · rename_i i hi
        have := hb.like i k (idxOf?_some hi)
        generalize ext'.getD i .gone = e2 at this ⊢
        cases h1 : σ.m k <;> cases e2 <;> simp [h1, Ent.like, merge] at this ⊢
      · split
        · cases h1 : σ.m k <;> simp [iceOf]
          exact hk h1
        · split
          · rename_i h1 h2 h3; exact absurd (hsite k h3.1 h3.2).1 hk
          · exact hk
    · unfold backM
      split
      · rename_i i hi
        have := hb.like i k (idxOf?_some hi)
        generalize ext'.getD i .gone = e2 at this ⊢
        cases h1 : σ.m k <;> cases e2 <;> simp [h1, Ent.like, merge, Ent.ver] at this ⊢
      · split
        · cases h1 : σ.m k <;> simp [iceOf, Ent.ver]
        · split
          · rename_i h1 h2 h3; exact absurd (hsite k h3.1 h3.2).1 hk
          · exact Nat.le_refl _
    · unfold backM at h
      unfold backL
      split at h
      · rename_i i hi
        try rw [hi]
        refine ⟨rfl, ?_⟩
        have := hb.like i k (idxOf?_some hi)
        generalize ext'.getD i .gone = e2 at this h
        cases h1 : σ.m k <;> cases e2 <;> simp [h1, Ent.like, merge] at this h ⊢
        obtain ⟨rfl, rfl, rfl⟩ := h
        exact ⟨_, ⟨rfl, rfl, rfl⟩, this.2.2⟩
      · rename_i hi
        try rw [hi]
        split at h
        · rename_i hc
          obtain ⟨⟨v', s', r', hm⟩, _⟩ := ho.bor k hc.2
          have hnb : ¬ (B ≤ k ∧ k < B + fs.length) := fun hh => by rw [(hsite k hh.1 hh.2).1] at hm; cases hm
          rw [if_neg hnb]
          rw [hm] at h
          simp only [iceOf, reduceCtorEq, Ent.ice.injEq, false_or] at h
          obtain ⟨rfl, rfl, rfl⟩ := h
          exact ⟨rfl, _, .inl hm, rfl⟩
        · split at h
          · rename_i h2 h3; exact absurd (hsite k h3.1 h3.2).1 hk
          · rename_i h2 h3; rw [if_neg h3]; exact ⟨rfl, r, h, rfl⟩
    · unfold backM at h
      unfold backL
      split at h
      · rename_i i hi
        try rw [hi]
        refine ⟨rfl, ?_⟩
        have := hb.like i k (idxOf?_some hi)
        generalize ext'.getD i .gone = e2 at this h
        cases h1 : σ.m k <;> cases e2 <;> simp [h1, Ent.like, merge] at this h ⊢
        exact h.1
      · rename_i hi
        try rw [hi]
        split at h
        · rename_i hc
          obtain ⟨⟨v', s', r', hm⟩, _⟩ := ho.bor k hc.2
          rw [hm] at h; cases h
        · split at h
          · rename_i h2 h3; exact absurd (hsite k h3.1 h3.2).1 hk
          · rename_i h2 h3; rw [if_neg h3]; exact ⟨rfl, cs, h⟩
  refine ⟨L, ⟨fun k => ?_, fun k k' b o o' h1 h2 h3 h4 => ?_⟩, fun b hlt hF => ?_, fun b hF => p3 b hF.1, fun k hk => ?_, ?_⟩
  · -- entries
    by_cases hkey : k ∈ keys
    · obtain ⟨i, hi⟩ := List.mem_iff_getElem?.1 hkey
      have hidx := idxOf?_of ho.nd hi
      have hlt := (List.getElem?_eq_some_iff.1 hi).1
      have hM : backM σ.m keys bor fz B ext' fs k = merge (σ.m k) (ext'.getD i .gone) := by simp [backM, hidx]
      have hL : backL lam lam' keys B fs.length k = lam k := by simp [backL, hidx]
      have hL' : lam' i = lam k := by rw [p5 i hlt]; simp [lamC, hi]
      have he := p6.ent i
      rw [ofM_ext hlt] at he
      have hold := hI.mem.ent k
      have hlk := hb.like i k hi
      rw [hM]
      cases h1 : σ.m k <;> cases h2 : ext'.getD i .gone <;> rw [h1, h2] at hlk <;> simp only [Ent.like, Bool.false_eq_true] at hlk <;> rw [h2] at he <;> rw [h1] at hold
      · rename_i ver sz rows ver' sz' rows'
        simp only [Bool.and_eq_true, beq_iff_eq] at hlk
        obtain ⟨_, rfl, hln⟩ := hlk
        obtain ⟨hw, he⟩ := he
        simp only [merge]
        refine ⟨hw, ?_⟩
        rcases he with ⟨h, hr⟩ | ⟨b, o, cur, ty, h3, h4, h5, h6, h7⟩
        · exact .inl ⟨by rw [hL, ← hL']; exact h, hr⟩
        · refine .inr ⟨b, o, cur, ty, by rw [hL, ← hL']; exact h3, h4, fun h => h5 h.1, ?_, h7⟩
          rcases hold.2 with ⟨h, _⟩ | ⟨b', o', cur', ty', h8, _, _, h9, _⟩
          · rw [← hL', h3] at h; cases h
          · rw [← hL', h3] at h8; simp only [Option.some.injEq, Prod.mk.injEq] at h8; obtain ⟨rfl, rfl⟩ := h8; exact h9
      · rename_i ver cells ver' cells'
        obtain ⟨b, cur, ty, h3, h4, h5, h6, h7⟩ := he
        simp only [merge]
        obtain ⟨b', cur', ty', h8, _, _, h9, _⟩ := hold
        rw [← hL', h3] at h8; simp only [Option.some.injEq, Prod.mk.injEq, and_true] at h8; subst h8
        refine ⟨b, cur, ty, by rw [hL, ← hL']; exact h3, h4, fun h => h5 h.1, h9, h7.1, fun j A0 u hA hu => ?_⟩
        have hp := h7.2 j A0 u hA hu
        rw [List.all_eq_true] at hlk
        have hpl := hlk A0 (List.mem_of_getElem? hA)
        refine ⟨?_, hp.2⟩
        rcases hb.im with hfz | hbn | ⟨_, hni⟩
        · exact RA_plain (fun b hF => ⟨hF, fun h => by rw [hfz] at h; cases h⟩) hpl hp.1
        · exact RA_plain (fun b hF => ⟨hF, fun _ k hk => by rw [hbn] at hk; cases hk⟩) hpl hp.1
        · have hin : ext'.getD i .gone ∈ ext' := by
            have hl : i < ext'.length := by rw [hb.len]; exact hlt
            rw [List.getD, List.getElem?_eq_getElem hl]; exact List.getElem_mem hl
          have := hni _ hin
          rw [h2] at this
          simp only [Ent.noIm, List.all_eq_true] at this
          have hno := this A0 (List.mem_of_getElem? hA)
          cases A0 <;> simp only [A.plain, A.noIm, Bool.false_eq_true] at hpl hno
          · exact hp.1
          · exact hp.1
          · exact hp.1
          · trivial
    · have hidx := hmk k hkey
      have hM : backM σ.m keys bor fz B ext' fs k = (if fz = true ∧ k ∈ bor then iceOf (σ.m k) else if B ≤ k ∧ k < B + fs.length then fs.getD (k - B) .gone else σ.m k) := by simp [backM, hidx]
      have hL : backL lam lam' keys B fs.length k = (if B ≤ k ∧ k < B + fs.length then lam' (1000 + (k - B)) else lam k) := by simp [backL, hidx]
      rw [hM]
      by_cases hfb : fz = true ∧ k ∈ bor
      · rw [if_pos hfb]
        obtain ⟨⟨v, s, r, hm⟩, _⟩ := ho.bor k hfb.2
        have hnb : ¬ (B ≤ k ∧ k < B + fs.length) := fun hh => by rw [(hsite k hh.1 hh.2).1] at hm; cases hm
        rw [if_neg hnb] at hL
        rw [hm]
        simp only [iceOf]
        have he := hI.mem.ent k
        rw [hm] at he
        obtain ⟨hw, he⟩ := he
        refine ⟨hw, ?_⟩
        rcases he with ⟨h, hr⟩ | ⟨b, o, cur, ty, h3, h4, h5, h6, h7, h8, h9⟩
        · exact .inl ⟨hL.trans h, hr⟩
        · refine .inr ⟨b, o, hL.trans h3, ⟨p1 b (.inr ⟨k, hfb.2, o, h3⟩), fun h => by rw [hfb.1] at h; cases h⟩, ?_⟩
          exact (cells_of_arr h4 h8 h9).keep (hsame k b o (by rw [hm]; trivial) h3 hkey)
      · rw [if_neg hfb]
        by_cases hnb : B ≤ k ∧ k < B + fs.length
        · rw [if_pos hnb]
          rw [if_pos hnb] at hL
          have hjl : k - B < fs.length := by omega
          rcases hfs _ (List.getElem_mem hjl) with ⟨sz, rows, hfe⟩ | ⟨cells, hfe, hpl, hfb2⟩
          · have hgd : fs.getD (k - B) .gone = .arr 0 sz rows := by rw [List.getD, List.getElem?_eq_getElem hjl]; exact hfe
            have he := p6.ent (1000 + (k - B))
            rw [ofM_fresh (Nat.le_trans ho.few (by decide)), hgd] at he
            rw [hgd]
            obtain ⟨hw, he⟩ := he
            refine ⟨hw, ?_⟩
            rcases he with ⟨h, hr⟩ | ⟨b, o, cur, ty, h3, h4, h5, h6, h7⟩
            · exact .inl ⟨hL.trans h, hr⟩
            · refine .inr ⟨b, o, cur, ty, hL.trans h3, h4, fun h => h5 h.1, ⟨fun h => ?_, fun _ => ?_⟩, h7⟩
              · have := (hsite k hnb.1 hnb.2).2; omega
              · have h8 : w.heap.size ≤ b := h6.2 (by show keys.length ≤ _; have := ho.few; omega)
                have := hI.chg.size; omega
          · have hgd : fs.getD (k - B) .gone = .box 0 cells := by rw [List.getD, List.getElem?_eq_getElem hjl]; exact hfe
            have he := p6.ent (1000 + (k - B))
            rw [ofM_fresh (Nat.le_trans ho.few (by decide)), hgd] at he
            rw [hgd]
            obtain ⟨b, cur, ty, h3, h4, h5, h6, h7⟩ := he
            refine ⟨b, cur, ty, hL.trans h3, h4, fun h => h5 h.1, ⟨fun h => ?_, fun _ => ?_⟩, h7.1, fun j A0 u hA hu => ?_⟩
            · have := (hsite k hnb.1 hnb.2).2; omega
            · have h8 : w.heap.size ≤ b := h6.2 (by show keys.length ≤ _; have := ho.few; omega)
              have := hI.chg.size; omega
            · have hp := h7.2 j A0 u hA hu
              rw [List.all_eq_true] at hpl
              have hpl := hpl A0 (List.mem_of_getElem? hA)
              refine ⟨?_, hp.2⟩
              rcases hfb2 with hfz | hbn
              · exact RA_plain (fun b hF => ⟨hF, fun h => by rw [hfz] at h; cases h⟩) hpl hp.1
              · exact RA_plain (fun b hF => ⟨hF, fun _ k hk => by rw [hbn] at hk; cases hk⟩) hpl hp.1
        · rw [if_neg hnb]
          rw [if_neg hnb] at hL
          refine (hI.mem.ent k).keep L hL fun b o hl hlk => ⟨hsame k b o hl hlk hkey, fun hF => ?_⟩
          have hlt := ((hI.mem.ent k).block' hl hlk).2
          rcases p2 b hlt hF.1 with h | ⟨k', hk', o', hlk'⟩
          · exact ((hI.mem.ent k).block' hl hlk).1 h
          · obtain ⟨⟨v, s, r, hm⟩, _⟩ := ho.bor k' hk'
            have := hI.mem.inj _ _ _ _ _ hl (by rw [hm]; trivial) hlk hlk'
            subst this
            cases hfz : fz with
            | true => exact hfb ⟨hfz, hk'⟩
            | false => exact hF.2 hfz k hk' o hlk
  · -- injectivity
    have cas : ∀ k b o, (backM σ.m keys bor fz B ext' fs k).live → backL lam lam' keys B fs.length k = some (b, o) →
        ((σ.m k).live ∧ lam k = some (b, o) ∧ b < w.heap.size ∧ ¬ (k ∉ keys ∧ B ≤ k ∧ k < B + fs.length)) ∨ (k ∉ keys ∧ B ≤ k ∧ k < B + fs.length ∧ lam' (1000 + (k - B)) = some (b, o) ∧ w.heap.size ≤ b ∧ (ofM keys.length 1000 ext' fs (1000 + (k - B))).live) := by
      intro k b o hl hlk
      by_cases hkey : k ∈ keys
      · obtain ⟨i, hi⟩ := List.mem_iff_getElem?.1 hkey
        have hidx := idxOf?_of ho.nd hi
        have : lam k = some (b, o) := by simpa [backL, hidx] using hlk
        exact .inl ⟨hkl k hkey, this, ((hI.mem.ent k).block' (hkl k hkey) this).2, fun h => h.1 hkey⟩
      · have hidx := hmk k hkey
        by_cases hnb : B ≤ k ∧ k < B + fs.length
        · have h1 : lam' (1000 + (k - B)) = some (b, o) := by simpa [backL, hidx, hnb] using hlk
          have hjl : k - B < fs.length := by omega
          rcases hfs _ (List.getElem_mem hjl) with ⟨sz, rows, hfe⟩ | ⟨cells, hfe, _, _⟩
          · have hgd : ofM keys.length 1000 ext' fs (1000 + (k - B)) = .arr 0 sz rows := by rw [ofM_fresh (Nat.le_trans ho.few (by decide)), List.getD, List.getElem?_eq_getElem hjl]; exact hfe
            have he := p6.ent (1000 + (k - B))
            rw [hgd] at he
            refine .inr ⟨hkey, hnb.1, hnb.2, h1, ?_, by rw [hgd]; trivial⟩
            rcases he.2 with ⟨h, _⟩ | ⟨b', o', cur, ty, h3, h4, h5, h6, h7⟩
            · rw [h1] at h; cases h
            · rw [h1] at h3; simp only [Option.some.injEq, Prod.mk.injEq] at h3; obtain ⟨rfl, rfl⟩ := h3
              exact h6.2 (by show keys.length ≤ _; have := ho.few; omega)
          · have hgd : ofM keys.length 1000 ext' fs (1000 + (k - B)) = .box 0 cells := by rw [ofM_fresh (Nat.le_trans ho.few (by decide)), List.getD, List.getElem?_eq_getElem hjl]; exact hfe
            have he := p6.ent (1000 + (k - B))
            rw [hgd] at he
            refine .inr ⟨hkey, hnb.1, hnb.2, h1, ?_, by rw [hgd]; trivial⟩
            obtain ⟨b', cur, ty, h3, h4, h5, h6, h7⟩ := he
            rw [h1] at h3; simp only [Option.some.injEq, Prod.mk.injEq] at h3; obtain ⟨rfl, rfl⟩ := h3
            exact h6.2 (by show keys.length ≤ _; have := ho.few; omega)
        · have h1 : lam k = some (b, o) := by
            unfold backL at hlk; rw [hidx] at hlk; simpa [hnb] using hlk
          unfold backM at hl
          rw [hidx] at hl
          simp only [hnb, if_false] at hl
          split at hl
          · rename_i hc
            obtain ⟨⟨v, s, r, hm⟩, _⟩ := ho.bor k hc.2
            rw [hm] at hl; exact hl.elim
          · exact .inl ⟨hl, h1, ((hI.mem.ent k).block' hl h1).2, fun h => hnb h.2⟩
    rcases cas k b o h1 h3 with ⟨l1, e1, s1, n1⟩ | ⟨n1, a1, c1, e1, s1, l1⟩ <;> rcases cas k' b o' h2 h4 with ⟨l2, e2, s2, n2⟩ | ⟨n2, a2, c2, e2, s2, l2⟩
    · exact hI.mem.inj _ _ _ _ _ l1 l2 e1 e2
    · omega
    · omega
    · have := p6.inj _ _ _ _ _ l1 l2 e1 e2; omega
  · -- old blocks
    have hlt' : b < w.heap.size := by have := hI.chg.size; omega
    rcases p2 b hlt' hF.1 with h | ⟨k, hk, o, hlk⟩
    · exact hI.f2 b hlt h
    · obtain ⟨⟨v, s, r, hm⟩, hnk, hnx⟩ := ho.bor k hk
      cases hfz : fz with
      | false => exact absurd hlk (hF.2 hfz k hk o)
      | true =>
        have he := hI.mem.ent k
        rw [hm] at he
        rcases he.2 with ⟨h, _⟩ | ⟨b', o', cur, ty, h3, h4, h5, h6, h7⟩
        · rw [hlk] at h; cases h
        · rw [hlk] at h3; simp only [Option.some.injEq, Prod.mk.injEq] at h3; obtain ⟨rfl, rfl⟩ := h3
          have := h6.2 (hnx hfz); omega
  · have : backL lam lam' keys B fs.length k = lam k := by
      unfold backL
      split
      · rfl
      · rw [if_neg (by have := ho.base; omega)]
    rw [this]; exact hI.l0 k hk
  · refine ⟨p4.os.trans hI.chg.os, p4.tape.trans hI.chg.tape, p4.output.trans hI.chg.output, Nat.le_trans hI.chg.size p4.size, fun b hlt hx => ?_, fun b => Nat.le_trans (hI.chg.bs b) (p4.bs b)⟩
    rw [p4.block b (by have := hI.chg.size; show b < w.heap.size; omega) ?_]
    · exact hI.chg.block b hlt hx
    · rintro ⟨i, o, hi, hli⟩
      have hi' : i < keys.length := hi
      have hl : lam keys[i] = some (b, o) := by simpa [lamC, hi'] using hli
      have hh : Home g keys[i] b := by
        have he := hI.mem.ent keys[i]
        have hlv := hkl _ (List.getElem_mem hi')
        cases hm : σ.m keys[i] with
        | gone => rw [hm] at hlv; exact hlv.elim
        | ice v s r => rw [hm] at hlv; exact hlv.elim
        | arr v s r =>
          rw [hm] at he
          rcases he.2 with ⟨h, _⟩ | ⟨b', o', cur, ty, h3, h4, h5, h6, h7⟩
          · rw [hl] at h; cases h
          · rw [hl] at h3; simp only [Option.some.injEq, Prod.mk.injEq] at h3; obtain ⟨rfl, rfl⟩ := h3; exact h6
        | box v cs =>
          rw [hm] at he
          obtain ⟨b', cur, ty, h3, h4, h5, h6, h7⟩ := he
          rw [hl] at h3; simp only [Option.some.injEq, Prod.mk.injEq] at h3; obtain ⟨rfl, _⟩ := h3; exact h6
      by_cases hkn : keys[i] < g.nx
      · exact hx (hh.1 hkn)
      · have := hh.2 (by omega); omega

end
end Go.Abs

/- A call's results in the caller's frame; a call as one step. -/
namespace Go.Abs
open Go.RowKit
set_option linter.unusedVariables false
set_option linter.unusedSimpArgs false

section
variable {g : G} {F F' : Nat → Prop} {lam lam' : Lam} {σ : St} {a : Act} {w w' : World} {keys bor : List Nat} {fz : Bool} {B : Nat} {ext' fs : List Ent} {res : AV}

theorem RA_back (ho : CallOk g.nx σ.m keys bor fz B) (hb : BackOk σ.m keys bor fz ext' fs res) (hB : keys.length + 1 ≤ B) (p5 : ∀ k, k < keys.length → lam' k = lamC keys lam k) {A0 : A} {u : Value}
    (hp : fz = true ∨ bor = [] ∨ A0.noIm = true) (h : RA w' F' (ofM keys.length 1000 ext' fs) lam' A0 u) (hkb : ∀ j, j < 16 → B + j ∉ keys ∧ B + j ∉ bor) :
    RA w' (backF bor fz lam F') (backM σ.m keys bor fz B ext' fs) (backL lam lam' keys B fs.length) (backA σ.m keys B A0) u := by
  have hF : ∀ b, (fz = true ∨ bor = []) → F' b → backF bor fz lam F' b := by
    intro b hor hb'
    refine ⟨hb', fun hfz k hk => ?_⟩
    rcases hor with h | h
    · rw [h] at hfz; cases hfz
    · rw [h] at hk; cases hk
  cases A0 with
  | v x => exact h
  | fr sz rows => exact h.elim
  | fb cs => exact h.elim
  | nil => exact h
  | er => exact h
  | dead => trivial
  | bx k ver off =>
    simp only [backA]
    split
    · rename_i hc
      obtain ⟨hv, hk2, hk1⟩ := hc
      subst hv
      have hfresh : ofM keys.length 1000 ext' fs k = fs.getD (k - 1000) .gone := by
        have := @ofM_fresh keys.length ext' fs (k - 1000) (Nat.le_trans ho.few (by decide))
        rwa [show 1000 + (k - 1000) = k by omega] at this
      obtain ⟨⟨h1, h2⟩, h3, h4⟩ := h
      rw [hfresh] at h1 h4
      have hlt : k - 1000 < fs.length := by
        refine Decidable.byContradiction fun hge => h1 ?_
        simp only [List.getD, List.getElem?_eq_none (Nat.le_of_not_lt hge), Option.getD_none]
      have hkb' := hkb (k - 1000) (by have := hb.few; omega)
      have hidx : keys.idxOf? (B + (k - 1000)) = none := by
        cases hx : keys.idxOf? (B + (k - 1000)) with
        | none => rfl
        | some i => exact absurd (List.mem_of_getElem? (idxOf?_some hx)) hkb'.1
      have hM : backM σ.m keys bor fz B ext' fs (B + (k - 1000)) = fs.getD (k - 1000) .gone := by
        simp only [backM, hidx]
        rw [if_neg (fun h => hkb'.2 h.2), if_pos (by omega), Nat.add_sub_cancel_left]
      have hL : backL lam lam' keys B fs.length (B + (k - 1000)) = lam' k := by
        simp only [backL, hidx]
        rw [if_pos (by omega), Nat.add_sub_cancel_left, show 1000 + (k - 1000) = k by omega]
      refine ⟨by rw [hM]; exact ⟨h1, Nat.zero_le _⟩, h3, fun cells hm => ?_⟩
      rw [hM] at hm
      rw [hL]
      exact h4 cells hm
    · trivial
  | pa k ver sz i off => trivial
  | vw k ver sz off n => trivial
  | pi cs => trivial
  | im sz rows =>
    have hor : fz = true ∨ bor = [] := by
      rcases hp with h | h | h
      · exact .inl h
      · exact .inr h
      · cases h
    exact RA_plain (fun b hb => hF b hor hb) rfl h
  | ow k ver sz n =>
    simp only [backA]
    split
    · rename_i hv
      subst hv
      split
      · rename_i hk
        have hgk : keys[k]? = some keys[k] := List.getElem?_eq_getElem hk
        rw [hgk]
        dsimp only
        have hidx := idxOf?_of ho.nd hgk
        have hM : backM σ.m keys bor fz B ext' fs keys[k] = merge (σ.m keys[k]) (ext'.getD k .gone) := by simp only [backM, hidx]
        have hL : backL lam lam' keys B fs.length keys[k] = lam keys[k] := by simp only [backL, hidx]
        have hL' : lam' k = lam keys[k] := by rw [p5 k hk]; simp [lamC, hk]
        obtain ⟨⟨h1, h2⟩, h3, h4⟩ := h
        rw [ofM_ext hk] at h1 h4
        have hlk := hb.like k _ hgk
        generalize ext'.getD k .gone = e2 at h1 h4 hlk hM
        refine ⟨?_, h3, fun s r hm => ?_⟩
        · rw [hM]
          cases hm1 : σ.m keys[k] <;> cases e2 <;> simp [hm1, Ent.like, merge, Ent.ver] at hlk ⊢
        · rw [hM] at hm
          rw [hL, ← hL']
          cases hm1 : σ.m keys[k] <;> cases e2 <;> simp [hm1, Ent.like, merge, Ent.ver] at hlk hm
          obtain ⟨rfl, rfl⟩ := hm
          obtain ⟨h00, h01, _⟩ := hlk
          subst h00; subst h01
          exact h4 _ _ (.inl rfl)
      · split
        · rename_i hk1 hk2
          have hfresh : ofM keys.length 1000 ext' fs k = fs.getD (k - 1000) .gone := by
            have := @ofM_fresh keys.length ext' fs (k - 1000) (Nat.le_trans ho.few (by decide))
            rwa [show 1000 + (k - 1000) = k by omega] at this
          obtain ⟨⟨h1, h2⟩, h3, h4⟩ := h
          rw [hfresh] at h1 h4
          have hlt : k - 1000 < fs.length := by
            refine Decidable.byContradiction fun hge => h1 ?_
            simp only [List.getD, List.getElem?_eq_none (Nat.le_of_not_lt hge), Option.getD_none]
          have hkb' := hkb (k - 1000) (by have := hb.few; omega)
          have hidx : keys.idxOf? (B + (k - 1000)) = none := by
            cases hx : keys.idxOf? (B + (k - 1000)) with
            | none => rfl
            | some i => exact absurd (List.mem_of_getElem? (idxOf?_some hx)) hkb'.1
          have hM : backM σ.m keys bor fz B ext' fs (B + (k - 1000)) = fs.getD (k - 1000) .gone := by
            simp only [backM, hidx]
            rw [if_neg (fun h => hkb'.2 h.2), if_pos (by omega), Nat.add_sub_cancel_left]
          have hL : backL lam lam' keys B fs.length (B + (k - 1000)) = lam' k := by
            simp only [backL, hidx]
            rw [if_pos (by omega), Nat.add_sub_cancel_left, show 1000 + (k - 1000) = k by omega]
          refine ⟨by rw [hM]; exact ⟨h1, Nat.zero_le _⟩, h3, fun s r hm => ?_⟩
          rw [hM] at hm
          rw [hL]
          exact h4 s r hm
        · trivial
    · trivial

end
end Go.Abs

/- One operation of a region as a step from frame to frame. -/
namespace Go.Abs
open Go.RowKit
set_option linter.unusedVariables false
set_option linter.unusedSimpArgs false

def putD (t : Nat → AV) : Option Nat → AV → Nat → AV
  | some d, x => upd t d x
  | none, _ => t

/-- A call of a known function. -/
structure CallStp (P : Program) (nx : Nat) (σ : St) (f : FuncId) (avs : List AV) (d : Option Nat) (σ' : St) : Prop where
  ex : ∃ keys bor fz args res ext', CallOk nx σ.m keys bor fz (siteOf d) ∧ BackOk σ.m keys bor fz ext' (freshes res) res ∧ subT (avs.map (passV keys bor σ.m)) args ∧
    SC P f args (exts keys σ.m) res ext' ∧ σ' = ⟨putD σ.t d (backV σ.m keys (siteOf d) (instV 1000 res)), backM σ.m keys bor fz (siteOf d) ext' (freshes res)⟩

theorem instA_noIm {n : Nat} {a : A} (h : a.noIm = true) : (instA n a).1.noIm = true := by cases a <;> simp_all [instA, A.noIm]
theorem instL_noIm {n : Nat} {as : List A} (h : as.all A.noIm = true) : (instL n as).1.all A.noIm = true := by
  induction as generalizing n with
  | nil => rfl
  | cons a as ih =>
    simp only [List.all_cons, Bool.and_eq_true] at h
    simp only [instL, List.all_cons, Bool.and_eq_true]
    exact ⟨instA_noIm h.1, ih h.2⟩
theorem inst1_noIm {n : Nat} {x : AV} (h : x.noIm1 = true) : (inst1 n x).1.noIm1 = true := by
  cases x with
  | «at» a => exact instA_noIm h
  | ag cs => exact instL_noIm h
  | tp xs => cases h
theorem instT_noIm {n : Nat} {xs : List AV} (h : xs.all AV.noIm1 = true) : (instT n xs).1.all AV.noIm1 = true := by
  induction xs generalizing n with
  | nil => rfl
  | cons x xs ih =>
    simp only [List.all_cons, Bool.and_eq_true] at h
    simp only [instT, List.all_cons, Bool.and_eq_true]
    exact ⟨inst1_noIm h.1, ih h.2⟩
theorem instV_noIm {n : Nat} {x : AV} (h : x.noIm = true) : (instV n x).noIm = true := by
  cases x with
  | «at» a => exact inst1_noIm (x := .at a) h
  | ag cs => exact inst1_noIm (x := .ag cs) h
  | tp xs => exact instT_noIm h

section
variable {g : G} {F F' : Nat → Prop} {lam lam' : Lam} {σ : St} {a : Act} {w w' : World} {keys bor : List Nat} {fz : Bool} {B : Nat} {ext' fs : List Ent} {res : AV}

theorem RV1_back (ho : CallOk g.nx σ.m keys bor fz B) (hb : BackOk σ.m keys bor fz ext' fs res) (hB : keys.length + 1 ≤ B) (p5 : ∀ k, k < keys.length → lam' k = lamC keys lam k) {x : AV} {u : Value}
    (hp : fz = true ∨ bor = [] ∨ x.noIm1 = true) (h : RV1 w' F' (ofM keys.length 1000 ext' fs) lam' x u) (hkb : ∀ j, j < 16 → B + j ∉ keys ∧ B + j ∉ bor) :
    RV1 w' (backF bor fz lam F') (backM σ.m keys bor fz B ext' fs) (backL lam lam' keys B fs.length) (backV1 σ.m keys B x) u := by
  cases x with
  | «at» A0 => exact RA_back ho hb hB p5 hp h hkb
  | ag cs =>
    obtain ⟨us, h1, h2⟩ := h
    refine ⟨us, h1, by simpa using h2.1, fun i A0 v hA hv => ?_⟩
    rw [List.getElem?_map] at hA
    cases hc : cs[i]? with
    | none => simp [hc] at hA
    | some a0 =>
      simp only [hc, Option.map_some, Option.some.injEq] at hA; subst hA
      have := h2.2 i a0 v hc hv
      refine ⟨RA_back ho hb hB p5 ?_ this.1 hkb, this.2⟩
      rcases hp with hp | hp | hp
      · exact .inl hp
      · exact .inr (.inl hp)
      · simp only [AV.noIm1, List.all_eq_true] at hp
        exact .inr (.inr (hp _ (List.mem_of_getElem? hc)))
  | tp xs => trivial

theorem RV_back (ho : CallOk g.nx σ.m keys bor fz B) (hb : BackOk σ.m keys bor fz ext' fs res) (hB : keys.length + 1 ≤ B) (p5 : ∀ k, k < keys.length → lam' k = lamC keys lam k) {x : AV} {u : Value}
    (hp : fz = true ∨ bor = [] ∨ x.noIm = true) (h : RV w' F' (ofM keys.length 1000 ext' fs) lam' x u) (hkb : ∀ j, j < 16 → B + j ∉ keys ∧ B + j ∉ bor) :
    RV w' (backF bor fz lam F') (backM σ.m keys bor fz B ext' fs) (backL lam lam' keys B fs.length) (backV σ.m keys B x) u := by
  cases x with
  | «at» A0 => exact RV1_back (x := .at A0) ho hb hB p5 hp h hkb
  | ag cs => exact RV1_back (x := .ag cs) ho hb hB p5 hp h hkb
  | tp xs =>
    obtain ⟨us, h1, h2, h3⟩ := h
    refine ⟨us, h1, by simpa using h2, fun i x y hx hy => ?_⟩
    rw [List.getElem?_map] at hx
    cases hc : xs[i]? with
    | none => simp [hc] at hx
    | some x0 =>
      simp only [hc, Option.map_some, Option.some.injEq] at hx; subst hx
      refine RV1_back ho hb hB p5 ?_ (h3 i x0 y hc hy) hkb
      rcases hp with hp | hp | hp
      · exact .inl hp
      · exact .inr (.inl hp)
      · simp only [AV.noIm, List.all_eq_true] at hp
        exact .inr (.inr (hp _ (List.mem_of_getElem? hc)))

theorem subT_get {xs ys : List AV} (h : subT xs ys) : xs.length = ys.length ∧ ∀ (i : Nat) (x y : AV), xs[i]? = some x → ys[i]? = some y → subV x y := by
  induction xs generalizing ys with
  | nil => cases ys with
    | nil => exact ⟨rfl, by simp⟩
    | cons y ys => exact h.elim
  | cons x xs ih => cases ys with
    | nil => exact h.elim
    | cons y ys =>
      obtain ⟨h1, h2⟩ := ih h.2
      refine ⟨by simp [h1], fun i a b ha hb => ?_⟩
      cases i with
      | zero => simp at ha hb; subst ha; subst hb; exact h.1
      | succ i => exact h2 i a b (by simpa using ha) (by simpa using hb)

theorem run_callf {P : Program} {f : FuncId} {o : Oper} {c : Call} (ho : o.op = .call c) (hc : c.callee = .value (.func f)) (h : Callable P f) :
    (execOp a.eval o).run P w = .ok (.enter f (c.args.map a.eval)) w := by
  obtain ⟨fn, h1, h2, h3⟩ := h
  have h2' : ¬ fn.name = "runtime.NumGoroutine" := by simpa using h2
  have h3' : ¬ fn.body = none := by intro e; rw [e] at h3; cases h3
  simp [execOp, ho, resolve, hc, Act.eval, Deferred.ofValue, invoke, callFunc, h1, h2', h3']

theorem call_sound (hI : Inv g F lam σ a w) {o : Oper} {c : Call} {f : FuncId} {σ' : St} (ho : o.op = .call c) (hc : c.callee = .value (.func f)) (hd : ∀ d, o.dst = some d → d < g.nt)
    (h : CallStp g.P g.nx σ f (c.args.toList.map σ.ev) o.dst σ') {next : Act → World → Prop} {Q : Exit → Act → World → Prop} (hn : ∀ F' lam' a' w', Inv g F' lam' σ' a' w' → next a' w') : o.wp g.P a w next Q := by
  obtain ⟨keys, bor, fz, args, res, ext', hok, hbk, hsub, ⟨hcall, hsc⟩, rfl⟩ := h.ex
  unfold Oper.wp
  rw [run_callf ho hc hcall]
  simp only [Oper.upon]
  have hlen : (exts keys σ.m).length = keys.length := by simp [exts]
  obtain ⟨hl, hs⟩ := subT_get hsub
  simp only [List.length_map] at hl
  have hkb : ∀ j, j < 16 → siteOf o.dst + j ∉ keys ∧ siteOf o.dst + j ∉ bor := by
    intro j hj
    have hg := hok.site j hj
    refine ⟨fun hk => ?_, fun hk => ?_⟩
    · have := hok.key _ hk
      rw [hg] at this; cases this
    · obtain ⟨⟨v, s, r, hm⟩, _⟩ := hok.bor _ hk
      rw [hg] at hm; cases hm
  have hcs := hsc w (FC bor lam F) (lamC keys lam) (c.args.toList.map a.eval) ?_ (call_mem hI hok) (by rw [List.length_map]; exact hl.symm) ?_
  · rw [show (c.args.map a.eval) = (c.args.toList.map a.eval).toArray from Array.ext' (by rw [Array.toList_map])]
    refine hcs.mono ?_
    rintro e w' ⟨v, F', lam', rfl, p1, p2, p3, p4, p5, p6, p7⟩
    rw [hlen] at p4 p5 p6 p7
    have hnx := call_back hI hok hbk (freshes_ok hbk) p1 p2 p3 p4 p5 p6
    have hrv := RV_back (u := v) hok hbk (by unfold siteOf; have := hok.few; omega) p5 (by
      rcases hbk.im with h | h | h
      · exact .inl h
      · exact .inr (.inl h)
      · exact .inr (.inr (instV_noIm h.1))) p7 hkb
    cases hdd : o.dst with
    | none =>
      simp only [hdd, putD] at hnx hn
      exact hn _ _ _ _ (hI.next0 hnx)
    | some d =>
      simp only [hdd, putD] at hnx hrv hn
      exact hn _ _ _ _ (hI.next hnx (hd d hdd) hrv)
  · rintro b (h | ⟨k, hk, o', hlk⟩)
    · exact hI.f3 b h
    · obtain ⟨⟨v, s, r, hm⟩, _⟩ := hok.bor k hk
      exact ((hI.mem.ent k).block' (by rw [hm]; trivial) hlk).2
  · intro i x u hx hu
    have hi : i < c.args.toList.length := by
      have := (List.getElem?_eq_some_iff.1 hu).1; simpa using this
    rw [List.getElem?_map, List.getElem?_eq_getElem hi] at hu
    simp only [Option.map_some, Option.some.injEq] at hu
    subst hu
    have hy : ((c.args.toList.map σ.ev).map (passV keys bor σ.m))[i]? = some (passV keys bor σ.m (σ.ev c.args.toList[i])) := by
      simp [List.getElem?_map, List.getElem?_eq_getElem hi]
    exact (RV_pass hI hok (hI.ev _)).sub (hs i _ x hy hx)

end
end Go.Abs

/- The operations of a region, in their order and in any order that the region leaves open. -/
namespace Go.Abs
open Go.RowKit
set_option linter.unusedVariables false
set_option linter.unusedSimpArgs false

/-- The slot that an operation's guard looks at, and what it wants. -/
def guardOf (ops : Array Oper) (o : Oper) : Option (Option Nat × Bool) := o.guard.map fun p => ((ops[p.1]?).bind (·.dst), p.2)

inductive ActStp (P : Program) (nx : Nat) (quiet : Qm) (o : Oper) (σ σ' : St) : Prop
  | op (x : AV) (m' : Mem) (c : Prop) (h : opS P nx quiet o σ = some (x, m', c)) (hc : c) (e : σ' = ⟨putD σ.t o.dst x, m'⟩) (hb : okQ quiet o σ)
  | call (cl : Call) (f : FuncId) (ho : o.op = .call cl) (hf : cl.callee = .value (.func f)) (h : CallStp P nx σ f (cl.args.toList.map σ.ev) o.dst σ') (hq : ∀ ban, quiet = some ban → ∃ keys bor fz args res ext', (∀ k ∈ keys, k ∈ ban) ∧ CallOk nx σ.m keys bor fz (siteOf o.dst) ∧ BackOk σ.m keys bor fz ext' (freshes res) res ∧ subT ((cl.args.toList.map σ.ev).map (passV keys bor σ.m)) args ∧
      SC P f args (exts keys σ.m) res ext' ∧ σ' = ⟨putD σ.t o.dst (backV σ.m keys (siteOf o.dst) (instV 1000 res)), backM σ.m keys bor fz (siteOf o.dst) ext' (freshes res)⟩)

/-- A guard's slot tells that the operation is passed over. -/
def skipAt (x : AV) (want : Bool) : Prop :=
  match x with
  | .at (.v (.bool b)) => b ≠ want
  | .tp [] => True
  | _ => False

inductive Stp (P : Program) (nx nt : Nat) (quiet : Qm) (ops : Array Oper) (o : Oper) (σ σ' : St) : Prop
  | skip (d : Nat) (want : Bool) (hg : guardOf ops o = some (some d, want)) (hb : skipAt (σ.t d) want) (hd : ∀ d, o.dst = some d → d < nt) (e : σ' = ⟨putD σ.t o.dst (.tp []), σ.m⟩)
  | act (hg : guardOf ops o = none ∨ ∃ d want, guardOf ops o = some (some d, want) ∧ σ.t d = .at (.v (.bool want))) (hd : ∀ d, o.dst = some d → d < nt) (h : ActStp P nx quiet o σ σ')

section
variable {g : G} {F : Nat → Prop} {lam : Lam} {σ σ' : St} {a : Act} {w : World} {quiet : Qm} {ops : Array Oper} {o : Oper}

theorem wanted_of_none (h : guardOf ops o = none) (t : Array Value) : Region.wanted o (yielded ops t) = true := by
  unfold guardOf at h
  cases hg : o.guard with
  | none => simp [Region.wanted, hg]
  | some p => simp [hg] at h

theorem wanted_of_some {d : Nat} {want b : Bool} (hI : Inv g F lam σ a w) (h : guardOf ops o = some (some d, want)) (hb : σ.t d = .at (.v (.bool b))) : Region.wanted o (yielded ops a.tmps) = (b == want) := by
  unfold guardOf at h
  cases hg : o.guard with
  | none => simp [hg] at h
  | some p =>
    obtain ⟨j, wn⟩ := p
    simp only [hg, Option.map_some, Option.some.injEq, Prod.mk.injEq] at h
    obtain ⟨h1, rfl⟩ := h
    have hs := hI.sl d
    rw [hb] at hs
    have hv : a.tmps.getD d undef = .bool b := hs.1
    have hlt : d < a.tmps.size := by
      refine Decidable.byContradiction fun hge => ?_
      simp only [Array.getD_eq_getD_getElem?, Array.getElem?_eq_none (Nat.le_of_not_lt hge), Option.getD_none] at hv
      exact absurd hv (by simp [undef])
    have hget : a.tmps[d]? = some (.bool b) := by
      rw [Array.getElem?_eq_getElem hlt]
      rw [Array.getD_eq_getD_getElem?, Array.getElem?_eq_getElem hlt] at hv
      simpa using hv
    simp only [Region.wanted, hg, yielded, h1, Option.bind_some, hget]
    cases b <;> cases wn <;> rfl

theorem wanted_of_skip {d : Nat} {want : Bool} (hI : Inv g F lam σ a w) (h : guardOf ops o = some (some d, want)) (hb : skipAt (σ.t d) want) : Region.wanted o (yielded ops a.tmps) = false := by
  unfold skipAt at hb
  split at hb
  · rename_i b hx
    rw [wanted_of_some hI h hx]
    simpa using hb
  · rename_i hx
    unfold guardOf at h
    cases hg : o.guard with
    | none => simp [hg] at h
    | some p =>
      obtain ⟨j, wn⟩ := p
      simp only [hg, Option.map_some, Option.some.injEq, Prod.mk.injEq] at h
      obtain ⟨h1, rfl⟩ := h
      have hs := hI.sl d
      rw [hx] at hs
      obtain ⟨us, hu, hl, _⟩ := hs
      have hnil : us = [] := List.eq_nil_of_length_eq_zero (by simpa using hl.symm)
      subst hnil
      simp only [Region.wanted, hg, yielded, h1, Option.bind_some]
      have hv : a.tmps.getD d undef = .tuple #[] := hu
      cases hget : a.tmps[d]? with
      | none => rfl
      | some v =>
        rw [Array.getD_eq_getD_getElem?, hget] at hv
        simp only [Option.getD_some] at hv
        subst hv; rfl
  · exact hb.elim

theorem RV_undef {m : Mem} : RV w F m lam (.tp []) undef := ⟨[], rfl, rfl, by simp⟩

theorem stp_sound (hI : Inv g F lam σ a w) {nt : Nat} (hnt : g.nt = nt) (h : Stp g.P g.nx nt quiet ops o σ σ') {K : Act → World → Prop} {Q : Exit → Act → World → Prop} (hn : ∀ F' lam' a' w', Inv g F' lam' σ' a' w' → K a' w') :
    if Region.wanted o (yielded ops a.tmps) then o.wp g.P a w K Q ∨ (o.asks g.P a w ∧ LetsOut Q) else K (a.put o.dst undef) w := by
  subst hnt
  cases h with
  | skip d want hg hb hd e =>
    subst e
    rw [wanted_of_skip hI hg hb]
    simp only [Bool.false_eq_true, if_false]
    cases hdd : o.dst with
    | none => simp only [hdd, putD] at hn; exact hn _ _ _ _ (hI.next0 hI.same)
    | some d' => simp only [hdd, putD] at hn; exact hn _ _ _ _ (hI.next hI.same (hd d' hdd) RV_undef)
  | act hg hd h =>
    have hw : Region.wanted o (yielded ops a.tmps) = true := by
      rcases hg with hg | ⟨d, want, hg, hb⟩
      · exact wanted_of_none hg _
      · rw [wanted_of_some hI hg hb]; simp
    rw [hw]
    simp only [if_true]
    left
    cases h with
    | op x m' c h hc e hb =>
      subst e
      obtain ⟨u, w', F', lam', hr, hnx, hv⟩ := act_sound hI h hc
      unfold Oper.wp
      cases hdd : o.dst with
      | none =>
        simp only [hdd, putD] at hn
        have := hn _ _ _ _ (hI.next0 hnx)
        rcases hr with hr | ⟨hr, rfl⟩ <;> rw [hr] <;> simp only [Oper.upon, hdd] <;> exact this
      | some d' =>
        simp only [hdd, putD] at hn
        have := hn _ _ _ _ (hI.next hnx (hd d' hdd) hv)
        rcases hr with hr | ⟨hr, rfl⟩ <;> rw [hr] <;> simp only [Oper.upon, hdd] <;> exact this
    | call cl f ho hf h hq => exact call_sound hI ho hf hd h hn

inductive Run (P : Program) (nx nt : Nat) (quiet : Qm) (ops : Array Oper) : List Nat → St → St → Prop
  | nil (σ : St) : Run P nx nt quiet ops [] σ σ
  | cons {i : Nat} {L : List Nat} {o : Oper} {σ σ1 σ2 : St} (ho : ops[i]? = some o) (h : Stp P nx nt quiet ops o σ σ1) (hr : Run P nx nt quiet ops L σ1 σ2) : Run P nx nt quiet ops (i :: L) σ σ2

theorem run_sound {L : List Nat} (hr : Run g.P g.nx g.nt quiet ops L σ σ') (hI : Inv g F lam σ a w) {Q : Exit → Act → World → Prop} (hn : ∀ F' lam' a' w', Inv g F' lam' σ' a' w' → Q .normal a' w') : wpOps g.P ops Q L a w := by
  induction hr generalizing F lam a w with
  | nil σ => exact hn _ _ _ _ hI
  | cons ho h hr ih =>
    rw [wpOps_cons]
    unfold wpOp
    rw [ho]
    exact stp_sound hI rfl h fun F' lam' a' w' hI' => ih hI' hn

end

/-- Some frame of some world is as told. -/
def Alive (P : Program) (nx nt : Nat) (σ : St) : Prop := ∃ g F lam a w, g.P = P ∧ g.nx = nx ∧ g.nt = nt ∧ Inv g F lam σ a w

theorem Alive.stp {P : Program} {nx nt : Nat} {quiet : Qm} {ops : Array Oper} {o : Oper} {σ σ' : St} (h : Alive P nx nt σ) (hs : Stp P nx nt quiet ops o σ σ') : Alive P nx nt σ' := by
  obtain ⟨g, F, lam, a, w, rfl, rfl, rfl, hI⟩ := h
  have := stp_sound (K := fun a' w' => ∃ F' lam', Inv g F' lam' σ' a' w') (Q := fun _ _ _ => False) hI rfl hs (fun F' lam' a' w' h => ⟨F', lam', h⟩)
  split at this
  · rcases this with h | ⟨_, _, _, h⟩
    · unfold Oper.wp at h
      cases hr : (execOp a.eval o).run g.P w with
      | halt x w' => rw [hr] at h; cases x <;> simp only [Oper.upon] at h
      | ok n w' =>
        rw [hr] at h
        cases n <;> simp only [Oper.upon] at h
        · obtain ⟨F', lam', h⟩ := h; exact ⟨g, F', lam', _, _, rfl, rfl, rfl, h⟩
        · obtain ⟨F', lam', h⟩ := h; exact ⟨g, F', lam', _, _, rfl, rfl, rfl, h⟩
        all_goals first
          | (obtain ⟨F', lam', h⟩ := h; exact ⟨g, F', lam', _, _, rfl, rfl, rfl, h⟩)
          | (obtain ⟨e, w'', fr, hR, _⟩ := h []; cases e with
              | returned v => obtain ⟨F', lam', h⟩ := hR; exact ⟨g, F', lam', _, _, rfl, rfl, rfl, h⟩
              | panicked ch => exact hR.elim
              | outgrown => obtain ⟨_, _, h⟩ := hR; exact h.elim)
          | (obtain ⟨v, w'', hR, _⟩ := h default []; obtain ⟨F', lam', h⟩ := hR; exact ⟨g, F', lam', _, _, rfl, rfl, rfl, h⟩)
          | exact h.elim
    · exact h.elim
  · obtain ⟨F', lam', h⟩ := this
    exact ⟨g, F', lam', _, _, rfl, rfl, rfl, h⟩

end Go.Abs

/- A region that leaves its order open: every order comes to the same. -/
namespace Go.Abs
open Go.RowKit
set_option linter.unusedVariables false
set_option linter.unusedSimpArgs false

inductive Cls where
  | p | l | n | k | m | a | b | s
  deriving DecidableEq

def clsOf (quiet : Qm) (o : Oper) : Cls :=
  match o.op with
  | .move _ => .p
  | .assign _ => .p
  | .pick .. => .p
  | .binOp .. => .p
  | .unOp .. => .p
  | .convert .. => .p
  | .fieldAddr .. => .p
  | .field .. => .p
  | .indexAddr .. => .p
  | .index .. => .p
  | .slice .. => if quiet.isSome then .p else .m
  | .build .. => .p
  | .extract .. => .p
  | .nilCheck _ => .p
  | .load .. => .l
  | .store .. => (match quiet with | some (b :: _) => if b = 999999 then .m else .s | _ => .m)
  | .box .. => .n
  | .alloc _ => .n
  | .buildSlice .. => .n
  | .makeSlice .. => .n
  | .call c =>
    match c.callee with
    | .builtin .len => .p
    | .builtin .max => .p
    | .builtin .min => .p
    | .value (.func _) => if quiet.isSome then .k else .m
    | .builtin .append => if quiet.isSome then .a else .b
    | _ => .m
  | _ => .m

def Cls.comm : Cls → Cls → Bool
  | .p, _ => true
  | _, .p => true
  | .l, .l => true
  | .l, .n => true
  | .n, .l => true
  | .n, .n => true
  | .l, .k => true
  | .k, .l => true
  | .k, .n => true
  | .l, .a => true
  | .a, .l => true
  | .a, .n => true
  | .b, .l => true
  | .b, .n => true
  | .s, .l => true
  | .l, .s => true
  | .s, .n => true
  | .n, .s => true
  | _, _ => false

section
variable {P : Program} {nx : Nat} {quiet : Qm} {o : Oper} {σ τ : St}

theorem fillS_congr {fs : List Field} {parts : List (Nat × Operand)} (h : ∀ p ∈ parts, τ.ev p.2 = σ.ev p.2) (as : List A) : fillS fs P τ parts as = fillS fs P σ parts as := by
  induction parts generalizing as with
  | nil => rfl
  | cons p parts ih =>
    obtain ⟨i, x⟩ := p
    have hx : τ.ev x = σ.ev x := h (i, x) (by simp)
    have ih' := ih fun p hp => h p (by simp [hp])
    simp only [fillS, hx, ih']

theorem fillRows_congr {sz : Nat} {parts : List (Nat × Operand)} (h : ∀ p ∈ parts, τ.ev p.2 = σ.ev p.2) (rows : List (List Value)) : fillRows τ sz parts rows = fillRows σ sz parts rows := by
  induction parts generalizing rows with
  | nil => rfl
  | cons p parts ih =>
    obtain ⟨i, x⟩ := p
    have hx : τ.ev x = σ.ev x := h (i, x) (by simp)
    have ih' := ih fun p hp => h p (by simp [hp])
    simp only [fillRows, hx, ih']

theorem boundS_congr {x : Option Operand} {d : Int} (h : ∀ y, x = some y → τ.ev y = σ.ev y) : boundS τ x d = boundS σ x d := by
  cases x with
  | none => rfl
  | some y => simp only [boundS, h y rfl]

theorem builtinS_congr {κ : Nat} {b : Builtin} {args : List Operand} {ts : List TypeId} (h : ∀ y ∈ args, τ.ev y = σ.ev y) (hm : τ.m = σ.m) : builtinS P κ nx b args ts τ = builtinS P κ nx b args ts σ := by
  unfold builtinS
  split <;> simp_all

theorem quietB_congr {b : Builtin} {args : List Operand} (h : ∀ y ∈ args, τ.ev y = σ.ev y) (hm : τ.m = σ.m) : quietB quiet b args τ = quietB quiet b args σ := by
  unfold quietB
  split
  · rename_i x l; rw [hm, h x (by simp)]
  · rfl

theorem okQ_congr {q : Qm} (h : ∀ y ∈ o.op.operands.toList, τ.ev y = σ.ev y) : okQ q o τ = okQ q o σ := by
  obtain ⟨dst, op, type, pos, after, guard⟩ := o
  cases op <;> simp only [Op.operands, List.mem_cons, List.not_mem_nil, or_false, forall_eq_or_imp, forall_eq] at h <;> simp only [okQ, h]
theorem okQ_mem {q : Qm} {t : Nat → AV} {m m' : Mem} : okQ q o ⟨t, m⟩ = okQ q o ⟨t, m'⟩ := okQ_congr fun y _ => by cases y <;> rfl
theorem opS_congr (h : ∀ y ∈ o.op.operands.toList, τ.ev y = σ.ev y) (hm : τ.m = σ.m) : opS P nx quiet o τ = opS P nx quiet o σ := by
  obtain ⟨dst, op, type, pos, after, guard⟩ := o
  cases op <;> simp only [Op.operands, List.mem_cons, List.not_mem_nil, or_false, forall_eq_or_imp, forall_eq] at h <;> simp only [opS]
  all_goals first
    | (simp only [h, hm]; done)
    | skip
  case build t parts =>
    have : ∀ as fs, fillS fs P τ parts.toList as = fillS fs P σ parts.toList as := fun as fs => fillS_congr (fun p hp => h p.2 (by
      simp only [List.mem_map]; exact ⟨p, hp, rfl⟩)) as
    simp only [this, hm]
  case buildSlice t len parts =>
    have : ∀ sz rows, fillRows τ sz parts.toList rows = fillRows σ sz parts.toList rows := fun sz rows => fillRows_congr (fun p hp => h p.2 (by
      simp only [List.mem_map]; exact ⟨p, hp, rfl⟩)) rows
    simp only [this, hm]
  case slice t x lo hi mx =>
    simp only [Array.toList_append, List.mem_append] at h
    have hx := h x (by simp)
    have hl : ∀ d, boundS τ lo d = boundS σ lo d := fun d => boundS_congr fun y hy => h y (by subst hy; simp)
    have hh : ∀ d, boundS τ hi d = boundS σ hi d := fun d => boundS_congr fun y hy => h y (by subst hy; simp)
    simp only [sliceS, hx, hl, hh, hm]
  case call cl =>
    split
    · rename_i b hcl
      have hin : ∀ y ∈ cl.args.toList, τ.ev y = σ.ev y := fun y hy => h y (by
        simp only [Call.operands, hcl, Array.toList_append, List.mem_append]
        exact .inr hy)
      rw [builtinS_congr hin hm, quietB_congr hin hm]
    · rfl

/-- An operation that neither looks at memory nor turns it. -/
theorem opS_pure (hp : clsOf quiet o = .p) {t : Nat → AV} {m m0 : Mem} : opS P nx quiet o ⟨t, m⟩ = (opS P nx quiet o ⟨t, m0⟩).map fun r => (r.1, m, r.2.2) := by
  have hev : ∀ y, (⟨t, m⟩ : St).ev y = (⟨t, m0⟩ : St).ev y := fun y => by cases y <;> rfl
  obtain ⟨dst, op, type, pos, after, guard⟩ := o
  cases op <;> simp only [clsOf, reduceCtorEq] at hp <;> simp only [opS, hev] <;> try (first | rfl | (split <;> rfl))
  case build ty parts =>
    have : ∀ as fs, fillS fs P ⟨t, m⟩ parts.toList as = fillS fs P ⟨t, m0⟩ parts.toList as := fun as fs => fillS_congr (fun p _ => hev p.2) as
    simp only [this]
    repeat' split
    all_goals first | rfl | simp_all
  case slice ty x lo hi mx =>
    obtain ⟨ban, rfl⟩ : ∃ ban, quiet = some ban := by cases quiet <;> simp_all
    have hb : ∀ y d, boundS ⟨t, m⟩ y d = boundS ⟨t, m0⟩ y d := fun y d => boundS_congr fun z _ => hev z
    simp only [sliceS, hb, Option.isSome_some, Bool.true_eq_false, false_and, and_false, if_false]
    repeat' split
    all_goals first | rfl | simp_all
  case store => split at hp <;> first | (cases hp; done) | (split at hp <;> cases hp)
  case extract x i =>
    repeat' split
    all_goals first | rfl | simp_all
  case call cl =>
    split at hp <;> try (cases hp; done)
    · rename_i hc
      simp only [hc, quietB_len, quietB_max, quietB_min, if_true, builtinS]
      repeat' split
      all_goals first | rfl | simp_all
    · rename_i hc
      simp only [hc, quietB_len, quietB_max, quietB_min, if_true, builtinS]
      repeat' split
      all_goals first | rfl | simp_all
    · rename_i hc
      simp only [hc, quietB_len, quietB_max, quietB_min, if_true, builtinS]
      repeat' split
      all_goals first | rfl | simp_all
    · split at hp <;> cases hp
    · split at hp <;> cases hp

end
end Go.Abs

/- A region that leaves its order open: two steps that may change places. -/
namespace Go.Abs
open Go.RowKit
set_option linter.unusedVariables false
set_option linter.unusedSimpArgs false

theorem loadS_same {P : Program} {t : TypeId} {m m' : Mem} {X : AV} (h : ∀ k, keyOf X = some k → m' k = m k ∨ ∃ v s r, (m k = .arr v s r ∧ m' k = .ice v s r) ∨ (m k = .ice v s r ∧ m' k = .arr v s r)) : loadS P t m' X = loadS P t m X := by
  unfold loadS
  split
  · rename_i k ver off
    rcases h k rfl with h | ⟨v, s, r, ⟨h1, h2⟩ | ⟨h1, h2⟩⟩
    · rw [h]
    · rw [h1, h2]
    · rw [h1, h2]
  · rename_i k ver sz i off
    rcases h k rfl with h | ⟨v, s, r, ⟨h1, h2⟩ | ⟨h1, h2⟩⟩
    · rw [h]
    · rw [h1, h2]
    · rw [h1, h2]
  · rfl
  · rfl

theorem loadS_live {P : Program} {t : TypeId} {m : Mem} {X : AV} {r : AV × Prop} (h : loadS P t m X = some r) {k : Nat} (hk : keyOf X = some k) : m k ≠ .gone := by
  intro hg
  unfold loadS at h
  split at h
  · simp only [keyOf, Option.some.injEq] at hk; subst hk; rw [hg] at h; cases h
  · simp only [keyOf, Option.some.injEq] at hk; subst hk; rw [hg] at h; cases h
  · cases hk
  · cases h

theorem Alive.key {P : Program} {nx nt : Nat} {σ : St} (h : Alive P nx nt σ) (x : Operand) {k : Nat} (hk : keyOf (σ.ev x) = some k) : σ.m k ≠ .gone := by
  obtain ⟨g, F, lam, a, w, _, _, _, hI⟩ := h
  have hv := hI.ev x
  cases he : σ.ev x with
  | «at» A0 =>
    rw [he] at hk hv
    cases A0 <;> simp only [keyOf, Option.some.injEq, reduceCtorEq] at hk
    · subst hk; exact hv.1.1
    · subst hk; exact hv.1.1
  | ag cs => rw [he] at hk; cases hk
  | tp xs => rw [he] at hk; cases hk

theorem loadS_rows {P : Program} {t : TypeId} {m : Mem} {X x : AV} {c : Prop} (h : loadS P t m X = some (x, c)) (hc : c) {k v s : Nat} (hk : keyOf X = some k) (hm : m k = .arr v s []) : False := by
  unfold loadS at h
  split at h
  · simp only [keyOf, Option.some.injEq] at hk; subst hk; rw [hm] at h; cases h
  · simp only [keyOf, Option.some.injEq] at hk; subst hk; rw [hm] at h
    simp only at h
    split at h
    · split at h
      · simp only [Option.some.injEq, Prod.mk.injEq] at h; obtain ⟨_, rfl⟩ := h
        have := hc.1; simp at this
      · simp only [Option.some.injEq, Prod.mk.injEq] at h; obtain ⟨_, rfl⟩ := h
        have := hc.1; simp at this
      · cases h
    · cases h
  · cases hk
  · cases h
theorem Alive.keyW {P : Program} {nx nt : Nat} {σ : St} (h : Alive P nx nt σ) (x : Operand) {k : Nat} (hk : Abs.keyW (σ.ev x) = some k) : σ.m k ≠ .gone := by
  obtain ⟨g, F, lam, a, w, _, _, _, hI⟩ := h
  have hv := hI.ev x
  cases he : σ.ev x with
  | «at» A0 =>
    rw [he] at hk hv
    cases A0 <;> simp only [Abs.keyW, Option.some.injEq, reduceCtorEq] at hk
    subst hk; exact hv.1.1
  | ag cs => rw [he] at hk; cases hk
  | tp xs => rw [he] at hk; cases hk
theorem Alive.paver {P : Program} {nx nt : Nat} {σ : St} (h : Alive P nx nt σ) (x : Operand) {k ver sz i off : Nat} (hk : σ.ev x = .at (.pa k ver sz i off)) : ver ≤ (σ.m k).ver := by
  obtain ⟨g, F, lam, a, w, _, _, _, hI⟩ := h
  have hv := hI.ev x
  rw [hk] at hv
  exact hv.1.2
/-- The keys that are told of in a slot. -/
def Tells (x : AV) (k : Nat) : Prop :=
  match x with
  | .at (.ow k' _ _ _) => k' = k
  | .at (.bx k' _ _) => k' = k
  | .ag cs => (∃ ver sz n, A.ow k ver sz n ∈ cs) ∨ ∃ ver off, A.bx k ver off ∈ cs
  | _ => False
theorem Alive.tells {P : Program} {nx nt : Nat} {σ : St} (h : Alive P nx nt σ) (x : Operand) {k : Nat} (hk : Tells (σ.ev x) k) : σ.m k ≠ .gone := by
  obtain ⟨g, F, lam, a, w, _, _, _, hI⟩ := h
  have hv := hI.ev x
  cases he : σ.ev x with
  | «at» A0 =>
    rw [he] at hk hv
    cases A0 <;> simp only [Tells] at hk
    · subst hk; exact hv.1.1
    · subst hk; exact hv.1.1
  | ag cs =>
    rw [he] at hk hv
    obtain ⟨us, _, hR⟩ := hv
    rcases hk with ⟨ver, sz, n, hm⟩ | ⟨ver, off, hm⟩
    all_goals
      obtain ⟨i, hi⟩ := List.mem_iff_getElem?.1 hm
      have hlt := (List.getElem?_eq_some_iff.1 hi).1
      have hlu : i < us.length := by rw [← hR.1]; exact hlt
      exact (hR.2 i _ us[i] hi (List.getElem?_eq_getElem hlu)).1.1.1
  | tp xs => rw [he] at hk; exact hk.elim
theorem passA_same {keys bor : List Nat} {m m' : Mem} {a : A} (h : ∀ k ver sz n, a = .ow k ver sz n → m' k = m k) (h' : ∀ k ver off, a = .bx k ver off → m' k = m k) : passA keys bor m' a = passA keys bor m a := by
  cases a with
  | ow k ver sz n => simp only [passA, h k ver sz n rfl]
  | bx k ver off => simp only [passA, h' k ver off rfl]
  | _ => rfl
theorem passV_same {keys bor : List Nat} {m m' : Mem} {x : AV} (h : ∀ k, Tells x k → m' k = m k) : passV keys bor m' x = passV keys bor m x := by
  cases x with
  | «at» a => simp only [passV]; rw [passA_same (fun k ver sz n e => h k (by subst e; rfl)) (fun k ver off e => h k (by subst e; rfl))]
  | ag cs =>
    simp only [passV]
    congr 1
    exact List.map_congr_left fun a ha => passA_same (fun k ver sz n e => h k (.inl ⟨ver, sz, n, e ▸ ha⟩)) (fun k ver off e => h k (.inr ⟨ver, off, e ▸ ha⟩))
  | tp xs => rfl
theorem backA_same {keys : List Nat} {m m' : Mem} {B : Nat} {a : A} (h : ∀ k ∈ keys, m' k = m k) : backA m' keys B a = backA m keys B a := by
  cases a with
  | ow k ver sz n =>
    simp only [backA]
    split
    · split
      · cases hk : keys[k]? with
        | none => rfl
        | some k' => simp only [h k' (List.mem_of_getElem? hk)]
      · rfl
    · rfl
  | _ => rfl
theorem backV1_same {keys : List Nat} {m m' : Mem} {B : Nat} {x : AV} (h : ∀ k ∈ keys, m' k = m k) : backV1 m' keys B x = backV1 m keys B x := by
  cases x with
  | «at» a => simp only [backV1, backA_same h]
  | ag cs => simp only [backV1]; rw [List.map_congr_left fun a _ => backA_same h]
  | tp xs => rfl
theorem backV_same {keys : List Nat} {m m' : Mem} {B : Nat} {x : AV} (h : ∀ k ∈ keys, m' k = m k) : backV m' keys B x = backV m keys B x := by
  cases x with
  | tp xs => simp only [backV]; rw [List.map_congr_left fun a _ => backV1_same h]
  | «at» a => exact backV1_same (x := .at a) h
  | ag cs => exact backV1_same (x := .ag cs) h

section
variable {P : Program} {nx nt : Nat} {quiet : Qm} {ops : Array Oper} {o oj oi : Oper} {σ τ σ1 σ2 : St}

/-- What is put behind. -/
def newsOf (P : Program) (t1 t2 : TypeId) (sz : Nat) (m : Mem) : AV → Option (List (List Value))
  | .at (.v (.string s)) => if sz = 0 ∧ isStr P t2 = true then some (s.data.toList.map fun (b : UInt8) => [Value.int .u8 (b.toNat : Int)]) else none
  | .at .nil => if t2 = t1 then some [] else none
  | x => (srcRows m x).bind fun p => if p.1 = sz + 1 ∧ t2 = t1 then some p.2 else none

def pushS (P : Program) (κ nx : Nat) (e : TypeId) (sz by_ : Nat) (m : Mem) (D : AV) (news : List (List Value)) : Res :=
  match D with
  | .at .nil =>
    match m κ with
    | .gone => if (zeroVals P e).map List.length = some (sz + 1) then some (.at (.ow κ 0 (sz + 1) news.length), upd m κ (.arr 0 (sz + 1) news), nx ≤ κ ∧ news.length * by_ ≤ 140737488355328 ∧ news.length ≤ 4611686018427387904) else none
    | _ => none
  | .at (.ow k ver sz' n) =>
    match m k with
    | .arr ver' sz'' rows =>
      if ver = ver' ∧ sz' = sz'' ∧ sz' = sz + 1 ∧ nx ≤ k ∧ (zeroVals P e).map List.length = some (sz + 1) then
        some (.at (.ow k (ver + 1) (sz + 1) (rows.length + news.length)), upd m k (.arr (ver + 1) (sz + 1) (rows ++ news)), (rows.length + news.length) * by_ ≤ 140737488355328 ∧ rows.length + news.length ≤ 4611686018427387904)
      else none
    | _ => none
  | _ => none

theorem appendS_eq {P : Program} {κ nx : Nat} {m : Mem} {t1 t2 e : TypeId} {sz by_ : Nat} {news : List (List Value)} {D S : AV} (ht : P.underlying t1 = some (.slice e)) (hs : szT P e = some (sz + 1)) (hb : (P.info? e).map (·.bytes) = some by_) (hn : newsOf P t1 t2 sz m S = some news) :
    appendS P κ nx t1 t2 m D S = pushS P κ nx e sz by_ m D news := by
  have : appendS P κ nx t1 t2 m D S = (match newsOf P t1 t2 sz m S with | some news => pushS P κ nx e sz by_ m D news | none => none) := by
    simp only [appendS, ht, hs, hb]
    rfl
  rw [this, hn]

/-- An array that grows: what it looks at, what it leaves. -/
theorem opS_app (hl : clsOf quiet o = .a ∨ clsOf quiet o = .b) {x : AV} {m' : Mem} {c : Prop} (h : opS P nx quiet o σ = some (x, m', c)) :
    ∃ K v s r, m' = upd σ.m K (.arr v s r) ∧ ((K = siteOf o.dst ∧ σ.m K = .gone) ∨ ((∃ y ∈ o.op.operands.toList, Abs.keyW (σ.ev y) = some K) ∧ ∃ v' s' r', σ.m K = .arr v' s' r' ∧ v' < v ∧ ∀ ban, quiet = some ban → r' = [] ∨ K ∈ ban)) ∧
      ∀ τ : St, (∀ y ∈ o.op.operands.toList, τ.ev y = σ.ev y) → τ.m K = σ.m K → (∀ y ∈ o.op.operands.toList, ∀ j, Abs.keyW (σ.ev y) = some j → τ.m j = σ.m j) → opS P nx quiet o τ = some (x, upd τ.m K (.arr v s r), c) := by
  obtain ⟨dst, op, type, pos, after, guard⟩ := o
  cases op <;> simp only [clsOf, reduceCtorEq, or_self, ite_eq_left_iff, ite_eq_right_iff] at hl
  case slice => cases quiet <;> simp at hl
  case store => rcases quiet with _ | (_ | ⟨_, _⟩) <;> (try simp at hl) <;> (split at hl <;> simp at hl)
  rename_i cl
  obtain ⟨callee, args, ats⟩ := cl
  have hcb : callee = .builtin .append := by
    revert hl
    dsimp only
    split <;> intro hl <;> first | rfl | (cases quiet <;> simp at hl)
  subst hcb
  simp only [opS] at h
  split at h
  rotate_left
  · cases h
  rename_i hq
  unfold builtinS at h
  split at h
  case h_1 h1 _ _ => cases h1
  case h_2 h1 _ => cases h1
  case h_3 h1 _ => cases h1
  case h_5 h1 _ _ => cases h1
  case h_6 => cases h
  rename_i X Y t t2 _ ha hts
  have hX : X ∈ (Op.call ⟨.builtin .append, args, ats⟩).operands.toList := by simp [Op.operands, Call.operands, ha]
  have hY : Y ∈ (Op.call ⟨.builtin .append, args, ats⟩).operands.toList := by simp [Op.operands, Call.operands, ha]
  unfold appendS at h
  split at h
  rotate_left
  · cases h
  rename_i e hu
  split at h
  rotate_left
  · cases h
  rename_i sz by_ hsz hby
  split at h
  rotate_left
  · cases h
  rename_i news hn
  -- the source, read again
  have src : ∀ τ : St, (∀ y ∈ (Op.call ⟨.builtin .append, args, ats⟩).operands.toList, τ.ev y = σ.ev y) → (∀ y ∈ (Op.call ⟨.builtin .append, args, ats⟩).operands.toList, ∀ j, Abs.keyW (σ.ev y) = some j → τ.m j = σ.m j) → 
      newsOf P t t2 sz τ.m (τ.ev Y) = some news := by
    intro τ hev hm
    rw [hev Y hY]
    have hs : ∀ x, σ.ev Y = x → srcRows τ.m x = srcRows σ.m x := by
      intro x hx
      cases x with
      | «at» A0 =>
        cases A0 <;> try rfl
        rename_i k ver s n
        have := hm Y hY k (by rw [hx]; rfl)
        simp only [srcRows, this]
      | _ => rfl
    have hs' := hs _ rfl
    clear hs
    have hn' : newsOf P t t2 sz σ.m (σ.ev Y) = some news := hn
    revert hn' hs'
    clear hn
    generalize σ.ev Y = YV
    intro hs' hn'
    cases YV with
    | «at» A0 => cases A0 with
      | v u => cases u <;> first | exact hn' | (simp only [newsOf] at hn' ⊢; rw [hs']; exact hn')
      | _ => first | exact hn' | (simp only [newsOf] at hn' ⊢; rw [hs']; exact hn')
    | _ => simp only [newsOf] at hn' ⊢; rw [hs']; exact hn'
  split at h
  · rename_i hx
    split at h
    · rename_i hgone
      split at h
      · rename_i hz
        simp only [Option.some.injEq, Prod.mk.injEq] at h
        obtain ⟨rfl, rfl, rfl⟩ := h
        refine ⟨siteOf dst, 0, sz + 1, news, rfl, .inl ⟨rfl, hgone⟩, fun τ hev hm hk => ?_⟩
        have hq' : quietB quiet .append args.toList τ = true := by
          cases quiet with
          | none => rfl
          | some ban => rw [ha]; show (noRowsB τ.m (τ.ev X) || inBan ban (τ.ev X)) = true; rw [hev X hX, hx]; rfl
        have hs := src τ hev hk
        rw [ha] at hq'
        simp only [opS, hq', if_true, builtinS, ha, hts, appendS_eq hu hsz hby hs, pushS, hev X hX, hx, hm, hgone, hz]
      · cases h
    · cases h
  · rename_i k ver sz' n hx
    split at h
    · rename_i ver' sz'' rows hmk
      split at h
      · rename_i hc
        simp only [Option.some.injEq, Prod.mk.injEq] at h
        obtain ⟨rfl, rfl, rfl⟩ := h
        refine ⟨k, ver + 1, sz + 1, rows ++ news, rfl, .inr ⟨⟨X, hX, by rw [hx]; rfl⟩, ver', sz'', rows, hmk, by omega, fun ban hqq => ?_⟩, fun τ hev hm hk => ?_⟩
        · subst hqq
          have : (noRowsB σ.m (σ.ev X) || inBan ban (σ.ev X)) = true := by
            rw [ha] at hq; exact hq
          rw [hx] at this
          simp only [noRowsB, hmk, inBan, keyW] at this
          cases rows with
          | nil => exact .inl rfl
          | cons a l => exact .inr (by simpa using this)
        · have hq' : quietB quiet .append args.toList τ = true := by
            cases quiet with
            | none => rfl
            | some ban =>
              rw [ha] at hq ⊢
              have h1 : (noRowsB σ.m (σ.ev X) || inBan ban (σ.ev X)) = true := hq
              show (noRowsB τ.m (τ.ev X) || inBan ban (τ.ev X)) = true
              rw [hev X hX]
              rw [hx] at h1 ⊢
              simp only [noRowsB, hm] at h1 ⊢
              exact h1
          have hs := src τ hev hk
          rw [ha] at hq'
          simp only [opS, hq', if_true, builtinS, ha, hts, appendS_eq hu hsz hby hs, pushS, hev X hX, hx, hm, hmk]
          rw [if_pos hc]
      · cases h
    · cases h
  · cases h

theorem opS_load (hl : clsOf quiet o = .l) {x : AV} {m' : Mem} {c : Prop} (h : opS P nx quiet o σ = some (x, m', c)) : ∃ t y, o.op = .load t y ∧ m' = σ.m ∧ loadS P t σ.m (σ.ev y) = some (x, c) := by
  obtain ⟨dst, op, type, pos, after, guard⟩ := o
  cases op <;> simp only [clsOf, reduceCtorEq] at hl
  case store => split at hl <;> first | (cases hl; done) | (split at hl <;> cases hl)
  · rename_i t y
    simp only [opS] at h
    split at h
    · rename_i v c' hv
      simp only [Option.some.injEq, Prod.mk.injEq] at h; obtain ⟨rfl, rfl, rfl⟩ := h
      exact ⟨t, y, rfl, rfl, hv⟩
    · cases h
  · split at hl <;> cases hl
  · split at hl <;> first | (cases hl; done) | (split at hl <;> cases hl)

theorem opS_new (hl : clsOf quiet o = .n) {x : AV} {m' : Mem} {c : Prop} (h : opS P nx quiet o σ = some (x, m', c)) : ∃ e, m' = upd σ.m (siteOf o.dst) e ∧ σ.m (siteOf o.dst) = .gone ∧
    ∀ τ : St, (∀ y ∈ o.op.operands.toList, τ.ev y = σ.ev y) → τ.m (siteOf o.dst) = .gone → opS P nx quiet o τ = some (x, upd τ.m (siteOf o.dst) e, c) := by
  obtain ⟨dst, op, type, pos, after, guard⟩ := o
  cases op <;> simp only [clsOf, reduceCtorEq] at hl
  case store => split at hl <;> first | (cases hl; done) | (split at hl <;> cases hl)
  · rename_i t
    simp only [opS] at h
    split at h
    · rename_i as hg has
      split at h
      · rename_i hs
        simp only [Option.some.injEq, Prod.mk.injEq] at h; obtain ⟨rfl, rfl, rfl⟩ := h
        exact ⟨_, rfl, hg, fun τ hev hτ => by simp only [opS, hτ, has, hs, if_true]⟩
      · cases h
    · cases h
  · rename_i t x'
    simp only [opS] at h
    split at h
    · rename_i as hg has
      simp only [Option.some.injEq, Prod.mk.injEq] at h; obtain ⟨rfl, rfl, rfl⟩ := h
      refine ⟨_, rfl, hg, fun τ hev hτ => ?_⟩
      have := hev x' (by simp [Op.operands])
      simp only [opS, hτ, this, has]
    · cases h
  · rename_i t len parts
    simp only [opS] at h
    split at h
    · rename_i e ht
      split at h
      · rename_i sz z hg hs hz
        split at h
        · rename_i hh
          split at h
          · rename_i rows hf
            simp only [Option.some.injEq, Prod.mk.injEq] at h; obtain ⟨rfl, rfl, rfl⟩ := h
            refine ⟨_, rfl, hg, fun τ hev hτ => ?_⟩
            have hfr : fillRows τ (sz + 1) parts.toList (List.replicate len z) = some rows := by
              rw [← hf]; exact fillRows_congr (fun p hp => hev p.2 (by simp only [Op.operands, List.mem_map]; exact ⟨p, hp, rfl⟩)) _
            simp only [opS, ht, hτ, hs, hz, hh, and_self, if_true, hfr]
          · cases h
        · cases h
      · cases h
    · cases h
  · rename_i t l cp
    simp only [opS] at h
    split at h
    · rename_i e k n k' n' ht hlv hcv
      split at h
      · rename_i sz z by_ hg hs hz hb
        split at h
        · rename_i hh
          simp only [Option.some.injEq, Prod.mk.injEq] at h; obtain ⟨rfl, rfl, rfl⟩ := h
          refine ⟨_, rfl, hg, fun τ hev hτ => ?_⟩
          have h1 := hev l (by simp [Op.operands])
          have h2 := hev cp (by simp [Op.operands])
          simp only [opS, ht, h1, h2, hlv, hcv, hτ, hs, hz, hb, hh, and_self, if_true]
        · cases h
      · cases h
    · cases h
  · split at hl <;> cases hl
  · split at hl <;> first | (cases hl; done) | (split at hl <;> cases hl)

theorem putD_ev {σ : St} {d : Option Nat} {x : AV} {m : Mem} {y : Operand} (h : ∀ t, y = .tmp t → d ≠ some t) : (⟨putD σ.t d x, m⟩ : St).ev y = σ.ev y := by
  cases y with
  | tmp t =>
    cases d with
    | none => rfl
    | some d' =>
      have : t ≠ d' := fun e => h t rfl (by rw [e])
      show upd σ.t d' x t = σ.t t
      exact upd_ne _ _ this
  | _ => rfl

theorem putD_comm {t : Nat → AV} {d d' : Option Nat} {x x' : AV} (h : ∀ k, d = some k → d' ≠ some k) : putD (putD t d x) d' x' = putD (putD t d' x') d x := by
  cases d with
  | none => rfl
  | some k =>
    cases d' with
    | none => rfl
    | some k' =>
      have hne : k' ≠ k := fun e => h k rfl (by rw [e])
      funext i
      simp only [putD, upd]
      by_cases h1 : i = k'
      · subst h1; simp [hne]
      · by_cases h2 : i = k
        · subst h2; simp [h1]
        · simp [h1, h2]

theorem looks_guard {d : Nat} {want : Bool} (h : guardOf ops o = some (some d, want)) : d ∈ o.looksAt ops := by
  unfold guardOf at h
  cases hg : o.guard with
  | none => simp [hg] at h
  | some p =>
    obtain ⟨j, wn⟩ := p
    simp only [hg, Option.map_some, Option.some.injEq, Prod.mk.injEq] at h
    simp only [Oper.looksAt, hg, List.mem_append]
    exact .inr (by rw [h.1]; simp)

theorem looks_op {t : Nat} (h : Operand.tmp t ∈ o.op.operands.toList) : t ∈ o.looksAt ops := by
  simp only [Oper.looksAt, List.mem_append, List.mem_filterMap]
  exact .inl ⟨.tmp t, h, rfl⟩

/-- What a step leaves: the slot and memory. -/
theorem stp_form (h : Stp P nx nt quiet ops o σ σ1) : ∃ x m', σ1 = ⟨putD σ.t o.dst x, m'⟩ := by
  cases h with
  | skip d want hg hb hd e => exact ⟨_, _, e⟩
  | act hg hd h =>
    cases h with
    | op x m' c h hc e hb => exact ⟨_, _, e⟩
    | call cl f ho hf h hq => obtain ⟨_, _, _, _, _, _, _, _, _, _, e⟩ := h.ex; exact ⟨_, _, e⟩

theorem guard_same (hs : ∀ d ∈ o.looksAt ops, τ.t d = σ.t d) : (guardOf ops o = none ∨ ∃ d want, guardOf ops o = some (some d, want) ∧ σ.t d = .at (.v (.bool want))) → guardOf ops o = none ∨ ∃ d want, guardOf ops o = some (some d, want) ∧ τ.t d = .at (.v (.bool want)) := by
  rintro (h | ⟨d, want, h, hb⟩)
  · exact .inl h
  · exact .inr ⟨d, want, h, (hs d (looks_guard h)).trans hb⟩

theorem ev_same (hs : ∀ d ∈ o.looksAt ops, τ.t d = σ.t d) : ∀ y ∈ o.op.operands.toList, τ.ev y = σ.ev y := by
  intro y hy
  cases y with
  | tmp t => exact hs t (looks_op hy)
  | _ => rfl

/-- The same step, at a frame that is alike where it looks. -/
theorem stp_again (hs : ∀ d ∈ o.looksAt ops, τ.t d = σ.t d) (hm : τ.m = σ.m) {x : AV} {m' : Mem} (h : Stp P nx nt quiet ops o σ ⟨putD σ.t o.dst x, m'⟩) :
    ∃ x', (∀ d, o.dst = some d → x' = x) ∧ Stp P nx nt quiet ops o τ ⟨putD τ.t o.dst x', m'⟩ := by
  have hx_of : ∀ {x1 : AV} {m1 : Mem}, (⟨putD σ.t o.dst x, m'⟩ : St) = ⟨putD σ.t o.dst x1, m1⟩ → m' = m1 ∧ ∀ d, o.dst = some d → x1 = x := by
    intro x1 m1 he
    simp only [St.mk.injEq] at he
    refine ⟨he.2, fun d hd => ?_⟩
    have := congrFun he.1 d
    rw [hd] at this
    simp only [putD, upd_same] at this
    exact this.symm
  cases h with
  | skip d want hg hb hd e =>
    obtain ⟨rfl, h1⟩ := hx_of e
    exact ⟨_, h1, .skip d want hg (by rw [hs d (looks_guard hg)]; exact hb) hd (by rw [hm])⟩
  | act hg hd h =>
    cases h with
    | op x1 m1 c h hc e hb =>
      obtain ⟨rfl, h1⟩ := hx_of e
      exact ⟨x1, h1, .act (guard_same hs hg) hd (.op x1 m' c (by rw [opS_congr (ev_same hs) hm]; exact h) hc rfl (by rw [okQ_congr (ev_same hs)]; exact hb))⟩
    | call cl f ho hf h hq =>
      have hev : cl.args.toList.map τ.ev = cl.args.toList.map σ.ev := List.map_congr_left fun y hy => ev_same hs y (by
        simp only [ho, Op.operands, Call.operands, Array.toList_append, List.mem_append]; exact .inr hy)
      cases hquiet : quiet with
      | some ban =>
        obtain ⟨keys, bor, fz, args, res, ext', hk, hok, hbk, hsub, hsc, e⟩ := hq ban hquiet
        obtain ⟨rfl, h1⟩ := hx_of e
        refine ⟨_, h1, .act (guard_same hs hg) hd (.call cl f ho hf ⟨keys, bor, fz, args, res, ext', by rw [hm]; exact hok, by rw [hm]; exact hbk, by rw [hev, hm]; exact hsub, by rw [hm]; exact hsc, by rw [hm]⟩ fun b hb => by cases hb; exact ⟨keys, bor, fz, args, res, ext', hk, by rw [hm]; exact hok, by rw [hm]; exact hbk, by rw [hev, hm]; exact hsub, by rw [hm]; exact hsc, by rw [hm]⟩)⟩
      | none =>
        obtain ⟨keys, bor, fz, args, res, ext', hok, hbk, hsub, hsc, e⟩ := h.ex
        obtain ⟨rfl, h1⟩ := hx_of e
        refine ⟨_, h1, .act (guard_same hs hg) hd (.call cl f ho hf ⟨keys, bor, fz, args, res, ext', by rw [hm]; exact hok, by rw [hm]; exact hbk, by rw [hev, hm]; exact hsub, by rw [hm]; exact hsc, by rw [hm]⟩ fun b hh => by cases hh)⟩

theorem stp_again' (hs : ∀ d ∈ o.looksAt ops, τ.t d = σ.t d) (hm : τ.m = σ.m) {x : AV} {m' : Mem} (h : Stp P nx nt quiet ops o σ ⟨putD σ.t o.dst x, m'⟩) : Stp P nx nt quiet ops o τ ⟨putD τ.t o.dst x, m'⟩ := by
  obtain ⟨x', hx, h'⟩ := stp_again hs hm h
  cases hd : o.dst with
  | none => rw [hd] at h'; exact h'
  | some d => rw [hx d hd, hd] at h'; exact h'

/-- A step that does not look at memory leaves it, and can be done over any. -/
theorem stp_pure (hp : clsOf quiet o = .p) {x : AV} {m' : Mem} (h : Stp P nx nt quiet ops o σ ⟨putD σ.t o.dst x, m'⟩) : m' = σ.m ∧ ∀ m, Stp P nx nt quiet ops o ⟨σ.t, m⟩ ⟨putD σ.t o.dst x, m⟩ := by
  cases h with
  | skip d want hg hb hd e =>
    simp only [St.mk.injEq] at e
    refine ⟨e.2, fun m => .skip d want hg hb hd ?_⟩
    rw [e.1]
  | act hg hd h =>
    cases h with
    | op x1 m1 c h hc e hb =>
      simp only [St.mk.injEq] at e
      have h1 := opS_pure (P := P) (nx := nx) hp (t := σ.t) (m := σ.m) (m0 := σ.m)
      have h0 : opS P nx quiet o ⟨σ.t, σ.m⟩ = some (x1, m1, c) := h
      rw [h0] at h1
      simp only [Option.map_some, Option.some.injEq, Prod.mk.injEq, true_and, and_true] at h1
      refine ⟨e.2.trans h1, fun m => .act hg hd (.op x1 m c ?_ hc (by rw [e.1]) (by rw [okQ_mem (m' := σ.m)]; exact hb))⟩
      rw [opS_pure hp (m0 := σ.m), h0]; rfl
    | call cl f ho hf h hq =>
      obtain ⟨dst, op, type, pos, after, guard⟩ := o
      simp only at ho
      subst ho
      simp only [clsOf, hf] at hp
      split at hp <;> cases hp

theorem stp_skip_or_act (h : Stp P nx nt quiet ops o σ σ1) : (∀ m, Stp P nx nt quiet ops o ⟨σ.t, m⟩ ⟨putD σ.t o.dst (.tp []), m⟩) ∧ σ1 = ⟨putD σ.t o.dst (.tp []), σ.m⟩ ∨
    ((guardOf ops o = none ∨ ∃ d want, guardOf ops o = some (some d, want) ∧ σ.t d = .at (.v (.bool want))) ∧ (∀ d, o.dst = some d → d < nt) ∧ ActStp P nx quiet o σ σ1) := by
  cases h with
  | skip d want hg hb hd e => exact .inl ⟨fun m => .skip d want hg hb hd rfl, e⟩
  | act hg hd h => exact .inr ⟨hg, hd, h⟩

/-- What is known where two operations are apart. -/
theorem apart_looks (ha : oj.apart ops oi = true) {t : Nat → AV} {x : AV} : ∀ d ∈ oi.looksAt ops, putD t oj.dst x d = t d := by
  intro d hd
  have := (Oper.apart_spec ha).1
  cases hj : oj.dst with
  | none => rfl
  | some k =>
    have hne : d ≠ k := fun e => this k hj (e ▸ hd)
    exact upd_ne _ _ hne
theorem apart_looks' (ha : oj.apart ops oi = true) {t : Nat → AV} {x : AV} : ∀ d ∈ oj.looksAt ops, putD t oi.dst x d = t d := by
  intro d hd
  have := (Oper.apart_spec ha).2.2
  cases hi : oi.dst with
  | none => rfl
  | some k =>
    have hne : d ≠ k := fun e => this k hi (e ▸ hd)
    exact upd_ne _ _ hne
theorem apart_comm (ha : oj.apart ops oi = true) {t : Nat → AV} {x y : AV} : putD (putD t oj.dst x) oi.dst y = putD (putD t oi.dst y) oj.dst x :=
  putD_comm fun k hk => (Oper.apart_spec ha).2.1 k hk

/-- One of the two leaves memory and does not look at it. -/
theorem swap_pure_left (ha : oj.apart ops oi = true) {x0 : AV} (hp : ∀ m, Stp P nx nt quiet ops oj ⟨σ.t, m⟩ ⟨putD σ.t oj.dst x0, m⟩) {xi : AV} {mi : Mem}
    (hi : Stp P nx nt quiet ops oi ⟨putD σ.t oj.dst x0, σ.m⟩ ⟨putD (putD σ.t oj.dst x0) oi.dst xi, mi⟩) :
    ∃ σ', Stp P nx nt quiet ops oi σ σ' ∧ Stp P nx nt quiet ops oj σ' ⟨putD (putD σ.t oj.dst x0) oi.dst xi, mi⟩ := by
  refine ⟨⟨putD σ.t oi.dst xi, mi⟩, ?_, ?_⟩
  · exact stp_again' (σ := ⟨putD σ.t oj.dst x0, σ.m⟩) (fun d hd => (apart_looks ha d hd).symm) rfl hi
  · rw [apart_comm ha]
    exact stp_again' (σ := ⟨σ.t, mi⟩) (τ := ⟨putD σ.t oi.dst xi, mi⟩) (fun d hd => apart_looks' ha d hd) rfl (hp mi)

theorem swap_pure_right (ha : oj.apart ops oi = true) {xj xi : AV} {mj : Mem} (hj : Stp P nx nt quiet ops oj σ ⟨putD σ.t oj.dst xj, mj⟩)
    (hp : ∀ m, Stp P nx nt quiet ops oi ⟨putD σ.t oj.dst xj, m⟩ ⟨putD (putD σ.t oj.dst xj) oi.dst xi, m⟩) :
    ∃ σ', Stp P nx nt quiet ops oi σ σ' ∧ Stp P nx nt quiet ops oj σ' ⟨putD (putD σ.t oj.dst xj) oi.dst xi, mj⟩ := by
  refine ⟨⟨putD σ.t oi.dst xi, σ.m⟩, ?_, ?_⟩
  · exact stp_again' (σ := ⟨putD σ.t oj.dst xj, σ.m⟩) (τ := σ) (fun d hd => (apart_looks ha d hd).symm) rfl (hp σ.m)
  · rw [apart_comm ha]
    exact stp_again' (σ := σ) (τ := ⟨putD σ.t oi.dst xi, σ.m⟩) (fun d hd => apart_looks' ha d hd) rfl hj

theorem site_ne {d d' : Option Nat} (h : d.isSome = true) (h' : d'.isSome = true) (hne : ∀ k, d = some k → d' ≠ some k) {j : Nat} (hj : j < 16) : siteOf d ≠ siteOf d' + j := by
  cases d with
  | none => cases h
  | some k =>
    cases d' with
    | none => cases h'
    | some k' =>
      have : k ≠ k' := fun e => hne k rfl (by rw [e])
      simp only [siteOf, Option.getD_some]
      omega

/-- What a call does to a place: it stands, or it is frozen, or it is new, or it was handed over. -/
theorem backM_same {m : Mem} {keys bor : List Nat} {fz : Bool} {B : Nat} {ext' fs : List Ent} (ho : CallOk nx m keys bor fz B) (hf : fs.length ≤ 16) {k : Nat} (hk : m k ≠ .gone) (hkk : k ∉ keys) :
    backM m keys bor fz B ext' fs k = m k ∨ ∃ v s r, (m k = .arr v s r ∧ backM m keys bor fz B ext' fs k = .ice v s r) ∨ (m k = .ice v s r ∧ backM m keys bor fz B ext' fs k = .arr v s r) := by
  have hidx : keys.idxOf? k = none := by
    cases h : keys.idxOf? k with
    | none => rfl
    | some i => exact absurd (List.mem_of_getElem? (idxOf?_some h)) hkk
  simp only [backM, hidx]
  split
  · rename_i hc
    obtain ⟨⟨v, s, r, hm⟩, _⟩ := ho.bor k hc.2
    exact .inr ⟨v, s, r, .inl ⟨hm, by rw [hm]; rfl⟩⟩
  · split
    · rename_i h1 h2
      have := ho.site (k - B) (by omega)
      rw [show B + (k - B) = k by omega] at this
      exact absurd this hk
    · exact .inl rfl

theorem load_at (hl : clsOf quiet o = .l) (hg : guardOf ops o = none ∨ ∃ d want, guardOf ops o = some (some d, want) ∧ σ.t d = .at (.v (.bool want))) (hd : ∀ d, o.dst = some d → d < nt) {x : AV} {m' : Mem}
    (h : ActStp P nx quiet o σ ⟨putD σ.t o.dst x, m'⟩) : m' = σ.m ∧ (∀ t y, o.op = .load t y → ∀ k, keyOf (σ.ev y) = some k → σ.m k ≠ .gone) ∧
    ∀ m : Mem, (∀ t y, o.op = .load t y → loadS P t m (σ.ev y) = loadS P t σ.m (σ.ev y)) → Stp P nx nt quiet ops o ⟨σ.t, m⟩ ⟨putD σ.t o.dst x, m⟩ := by
  cases h with
  | op x1 m1 c h hc e hb =>
    simp only [St.mk.injEq] at e
    obtain ⟨t, y, ho, rfl, hls⟩ := opS_load hl h
    refine ⟨e.2, fun t' y' ho' k hk => ?_, fun m hm => .act hg hd (.op x1 m c ?_ hc (by rw [e.1]) (by rw [okQ_mem (m' := σ.m)]; exact hb))⟩
    · rw [ho] at ho'; cases ho'; exact loadS_live hls hk
    · have h1 := hm t y ho
      obtain ⟨dst, op, type, pos, after, guard⟩ := o
      simp only at ho
      subst ho
      have hev : (⟨σ.t, m⟩ : St).ev y = σ.ev y := by cases y <;> rfl
      simp only [opS, hev, h1, hls]
  | call cl f ho hf h hq =>
    obtain ⟨dst, op, type, pos, after, guard⟩ := o
    simp only at ho
    subst ho
    simp only [clsOf, hf] at hl
    split at hl <;> cases hl

theorem new_at (hl : clsOf quiet o = .n) (hg : guardOf ops o = none ∨ ∃ d want, guardOf ops o = some (some d, want) ∧ σ.t d = .at (.v (.bool want))) (hd : ∀ d, o.dst = some d → d < nt) {x : AV} {m' : Mem}
    (h : ActStp P nx quiet o σ ⟨putD σ.t o.dst x, m'⟩) : ∃ e, m' = upd σ.m (siteOf o.dst) e ∧ σ.m (siteOf o.dst) = .gone ∧
    ∀ m : Mem, m (siteOf o.dst) = .gone → Stp P nx nt quiet ops o ⟨σ.t, m⟩ ⟨putD σ.t o.dst x, upd m (siteOf o.dst) e⟩ := by
  cases h with
  | op x1 m1 c h hc e hb =>
    simp only [St.mk.injEq] at e
    obtain ⟨en, rfl, hgone, hτ⟩ := opS_new hl h
    refine ⟨en, e.2, hgone, fun m hm => .act hg hd (.op x1 _ c (hτ ⟨σ.t, m⟩ (fun y _ => by cases y <;> rfl) hm) hc (by rw [e.1]) (by rw [okQ_mem (m' := σ.m)]; exact hb))⟩
  | call cl f ho hf h hq =>
    obtain ⟨dst, op, type, pos, after, guard⟩ := o
    simp only at ho
    subst ho
    simp only [clsOf, hf] at hl
    split at hl <;> cases hl

theorem call_at (hl : clsOf quiet o = .k) {x : AV} {m' : Mem} (h : ActStp P nx quiet o σ ⟨putD σ.t o.dst x, m'⟩) : ∀ k, σ.m k ≠ .gone →
    (m' k = σ.m k ∨ ∃ v s r, (σ.m k = .arr v s r ∧ m' k = .ice v s r) ∨ (σ.m k = .ice v s r ∧ m' k = .arr v s r)) ∨ ∃ ban, quiet = some ban ∧ k ∈ ban := by
  cases h with
  | op x1 m1 c h hc e hb =>
    exfalso
    obtain ⟨dst, op, type, pos, after, guard⟩ := o
    cases op <;> simp only [clsOf, reduceCtorEq] at hl
    case store => split at hl <;> first | (cases hl; done) | (split at hl <;> cases hl)
    · split at hl <;> cases hl
    · rename_i cl
      simp only [opS] at h
      split at h
      · rename_i b hb
        rw [hb] at hl
        cases b <;> first | (simp at hl; done) | (cases quiet <;> simp at hl)
      · cases h
  | call cl f ho hf h hq =>
    obtain ⟨ban, hq1⟩ : ∃ ban, quiet = some ban := by
      obtain ⟨dst, op, type, pos, after, guard⟩ := o
      simp only at ho
      subst ho
      simp only [clsOf, hf] at hl
      cases quiet
      · cases hl
      · exact ⟨_, rfl⟩
    obtain ⟨keys, bor, fz, args, res, ext', hkb, hok, hbk, hsub, hsc, e⟩ := hq ban hq1
    simp only [St.mk.injEq] at e
    intro k hk
    by_cases hkk : k ∈ keys
    · exact .inr ⟨ban, hq1, hkb k hkk⟩
    left
    rw [e.2]
    exact backM_same hok hbk.few hk hkk

theorem load_row (hl : clsOf quiet o = .l) {x : AV} {m' : Mem} (h : ActStp P nx quiet o σ ⟨putD σ.t o.dst x, m'⟩) {t : TypeId} {y : Operand} (ho : o.op = .load t y) {k v s : Nat} (hk : keyOf (σ.ev y) = some k) (hm : σ.m k = .arr v s []) : False := by
  cases h with
  | op x1 m1 c h hc e hb =>
    obtain ⟨t', y', ho', rfl, hls⟩ := opS_load hl h
    rw [ho] at ho'; cases ho'
    exact loadS_rows hls hc hk hm
  | call cl f ho' hf h hq => rw [ho] at ho'; cases ho'

theorem load_ver (hl : clsOf quiet o = .l) {x : AV} {m' : Mem} (h : ActStp P nx quiet o σ ⟨putD σ.t o.dst x, m'⟩) {t : TypeId} {y : Operand} (ho : o.op = .load t y) {k v s : Nat} {r : List (List Value)} (hk : keyOf (σ.ev y) = some k) (hm : σ.m k = .arr v s r) :
    ∃ sz i off, σ.ev y = .at (.pa k v sz i off) := by
  cases h with
  | op x1 m1 c h hc e hb =>
    obtain ⟨t', y', ho', rfl, hls⟩ := opS_load hl h
    rw [ho] at ho'; cases ho'
    unfold loadS at hls
    split at hls
    · rename_i hx; rw [hx] at hk; simp only [keyOf, Option.some.injEq] at hk; subst hk; rw [hm] at hls; cases hls
    · rename_i hx; rw [hx] at hk; simp only [keyOf, Option.some.injEq] at hk; subst hk; rw [hm] at hls
      simp only at hls
      split at hls
      · rename_i hv; exact ⟨_, _, _, by rw [hx, hv.1]⟩
      · cases hls
    · rename_i hx; rw [hx] at hk; cases hk
    · cases hls
  | call cl f ho' hf h hq => rw [ho] at ho'; cases ho'

theorem app_at (hl : clsOf quiet o = .a ∨ clsOf quiet o = .b) (hg : guardOf ops o = none ∨ ∃ d want, guardOf ops o = some (some d, want) ∧ σ.t d = .at (.v (.bool want))) (hd : ∀ d, o.dst = some d → d < nt) {x : AV} {m' : Mem}
    (h : ActStp P nx quiet o σ ⟨putD σ.t o.dst x, m'⟩) : ∃ K v s r, m' = upd σ.m K (.arr v s r) ∧ ((K = siteOf o.dst ∧ σ.m K = .gone) ∨ ((∃ y ∈ o.op.operands.toList, Abs.keyW (σ.ev y) = some K) ∧ ∃ v' s' r', σ.m K = .arr v' s' r' ∧ v' < v ∧ ∀ ban, quiet = some ban → r' = [] ∨ K ∈ ban)) ∧
    ∀ m : Mem, m K = σ.m K → (∀ y ∈ o.op.operands.toList, ∀ j, Abs.keyW (σ.ev y) = some j → m j = σ.m j) → Stp P nx nt quiet ops o ⟨σ.t, m⟩ ⟨putD σ.t o.dst x, upd m K (.arr v s r)⟩ := by
  cases h with
  | op x1 m1 c h hc e hb =>
    simp only [St.mk.injEq] at e
    obtain ⟨K, v, s, r, rfl, hK, hτ⟩ := opS_app hl h
    refine ⟨K, v, s, r, e.2, hK, fun m hm hk => .act hg hd (.op x1 _ c (hτ ⟨σ.t, m⟩ (fun y _ => by cases y <;> rfl) hm hk) hc (by rw [e.1]) (by rw [okQ_mem (m' := σ.m)]; exact hb))⟩
  | call cl f ho hf h hq =>
    exfalso
    obtain ⟨dst, op, type, pos, after, guard⟩ := o
    simp only at ho
    subst ho
    simp only [clsOf, hf] at hl
    cases quiet <;> simp at hl

theorem call_new (hA : Alive P nx nt σ) (hl : clsOf quiet o = .k) (hg : guardOf ops o = none ∨ ∃ d want, guardOf ops o = some (some d, want) ∧ σ.t d = .at (.v (.bool want))) (hd : ∀ d, o.dst = some d → d < nt) {x : AV} {m' : Mem}
    (h : ActStp P nx quiet o σ ⟨putD σ.t o.dst x, m'⟩) {s : Nat} (hs : m' s = .gone) (hsite : ∀ j, j < 16 → s ≠ siteOf o.dst + j) :
    σ.m s = .gone ∧ ∀ e, Stp P nx nt quiet ops o ⟨σ.t, upd σ.m s e⟩ ⟨putD σ.t o.dst x, upd m' s e⟩ := by
  cases h with
  | op x1 m1 c h hc e hb =>
    exfalso
    obtain ⟨dst, op, type, pos, after, guard⟩ := o
    cases op <;> simp only [clsOf, reduceCtorEq] at hl
    case store => split at hl <;> first | (cases hl; done) | (split at hl <;> cases hl)
    · split at hl <;> cases hl
    · rename_i cl
      simp only [opS] at h
      split at h
      · rename_i b hb
        rw [hb] at hl
        cases b <;> simp at hl
        cases quiet <;> simp at hl
      · cases h
  | call cl f ho hf h hq =>
    obtain ⟨ban, hq1⟩ : ∃ ban, quiet = some ban := by
      obtain ⟨dst, op, type, pos, after, guard⟩ := o
      simp only at ho
      subst ho
      simp only [clsOf, hf] at hl
      cases quiet
      · cases hl
      · exact ⟨_, rfl⟩
    obtain ⟨keys, bor, fz, args, res, ext', hkb, hok, hbk, hsub, hsc, e⟩ := hq ban hq1
    simp only [St.mk.injEq] at e
    obtain ⟨e1, rfl⟩ := e
    have hkeys : ∀ k ∈ keys, k ≠ s := by
      rintro k hk rfl
      obtain ⟨i, hi⟩ := List.mem_iff_getElem?.1 hk
      have hidx := idxOf?_of hok.nd hi
      have hpl := hok.key k hk
      have hlk := hbk.like i k hi
      simp only [backM, hidx] at hs
      generalize ext'.getD i .gone = e2 at hs hlk
      cases h1 : σ.m k <;> cases e2 <;> simp [h1, merge, Ent.like, Ent.plain] at hs hlk hpl
    have hidx : keys.idxOf? s = none := by
      cases h : keys.idxOf? s with
      | none => rfl
      | some i => exact absurd rfl (hkeys s (List.mem_of_getElem? (idxOf?_some h)))
    have hfew := hbk.few
    have hbor : ∀ k ∈ bor, k ≠ s := by
      rintro k hk rfl
      obtain ⟨⟨v, sz, r, hm⟩, _⟩ := hok.bor k hk
      have hin : ¬ (siteOf o.dst ≤ k ∧ k < siteOf o.dst + (freshes res).length) := fun hh => hsite (k - siteOf o.dst) (by omega) (by omega)
      simp only [backM, hidx, hin, if_false, hm, iceOf] at hs
      split at hs <;> cases hs
    have hin : ¬ (siteOf o.dst ≤ s ∧ s < siteOf o.dst + (freshes res).length) := fun hh => hsite (s - siteOf o.dst) (by omega) (by omega)
    have hnb : ¬ (fz = true ∧ s ∈ bor) := fun hh => hbor s hh.2 rfl
    have hgone : σ.m s = .gone := by simpa only [backM, hidx, hin, hnb, if_false] using hs
    refine ⟨hgone, fun e => ?_⟩
    have hev : cl.args.toList.map (⟨σ.t, upd σ.m s e⟩ : St).ev = cl.args.toList.map σ.ev := List.map_congr_left fun y _ => by cases y <;> rfl
    have hpass : (cl.args.toList.map σ.ev).map (passV keys bor (upd σ.m s e)) = (cl.args.toList.map σ.ev).map (passV keys bor σ.m) := by
      rw [List.map_map, List.map_map]
      refine List.map_congr_left fun y _ => passV_same fun k hk => upd_ne _ _ fun he => ?_
      exact hA.tells y hk (by rw [he]; exact hgone)
    have hne : ∀ k ∈ keys, upd σ.m s e k = σ.m k := fun k hk => upd_ne _ _ (hkeys k hk)
    have hexts : exts keys (upd σ.m s e) = exts keys σ.m := List.map_congr_left fun k hk => by rw [hne k hk]
    have hok' : CallOk nx (upd σ.m s e) keys bor fz (siteOf o.dst) := ⟨hok.nd, hok.few, (fun k hk => by rw [hne k hk]; exact hok.key k hk), (fun k hk => by rw [upd_ne _ _ (hbor k hk)]; exact hok.bor k hk), (fun j hj => by rw [upd_ne _ _ (Ne.symm (hsite j hj))]; exact hok.site j hj), hok.base⟩
    have hbk' : BackOk (upd σ.m s e) keys bor fz ext' (freshes res) res := ⟨hbk.len, fun i k h => by rw [hne k (List.mem_of_getElem? h)]; exact hbk.like i k h, hbk.few, hbk.im⟩
    have hback : backM (upd σ.m s e) keys bor fz (siteOf o.dst) ext' (freshes res) = upd (backM σ.m keys bor fz (siteOf o.dst) ext' (freshes res)) s e := by
      funext k
      by_cases hks : k = s
      · subst hks
        simp only [backM, hidx, hin, hnb, if_false, upd_same]
      · simp only [backM, upd_ne _ _ hks]
    have hfin : (⟨putD σ.t o.dst x, upd (backM σ.m keys bor fz (siteOf o.dst) ext' (freshes res)) s e⟩ : St) = ⟨putD σ.t o.dst (backV (upd σ.m s e) keys (siteOf o.dst) (instV 1000 res)), backM (upd σ.m s e) keys bor fz (siteOf o.dst) ext' (freshes res)⟩ := by
      rw [hback, backV_same (m := σ.m) hne, ← e1]
    refine .act hg hd (.call cl f ho hf ⟨keys, bor, fz, args, res, ext', hok', hbk', by rw [hev, hpass]; exact hsub, by rw [hexts]; exact hsc, hfin⟩ fun b hb => ?_)
    rw [hq1] at hb; cases hb
    exact ⟨keys, bor, fz, args, res, ext', hkb, hok', hbk', by rw [hev, hpass]; exact hsub, by rw [hexts]; exact hsc, hfin⟩

theorem load_free (hl : clsOf quiet o = .l) {x : AV} {m' : Mem} (h : ActStp P nx quiet o σ ⟨putD σ.t o.dst x, m'⟩) {t : TypeId} {y : Operand} (ho : o.op = .load t y) : freeB quiet (σ.ev y) := by
  cases h with
  | op x1 m1 c h hc e hb => simpa only [okQ, ho] using hb
  | call cl f ho' hf h hq => rw [ho] at ho'; cases ho'

/-- A store: what it turns. -/
theorem store_at (hl : clsOf quiet o = .s) (hg : guardOf ops o = none ∨ ∃ d want, guardOf ops o = some (some d, want) ∧ σ.t d = .at (.v (.bool want))) (hd : ∀ d, o.dst = some d → d < nt) {x : AV} {m' : Mem}
    (h : ActStp P nx quiet o σ ⟨putD σ.t o.dst x, m'⟩) : ∃ t p y K e ban, o.op = .store t p y ∧ quiet = some ban ∧ K ∈ ban ∧ keyOf (σ.ev p) = some K ∧ e ≠ .gone ∧ m' = upd σ.m K e ∧ σ.m K ≠ .gone ∧
    ∀ m : Mem, m K = σ.m K → Stp P nx nt quiet ops o ⟨σ.t, m⟩ ⟨putD σ.t o.dst x, upd m K e⟩ := by
  cases h with
  | op x1 m1 c h hc e hb =>
    obtain ⟨dst, op, type, pos, after, guard⟩ := o
    cases op <;> simp only [clsOf, reduceCtorEq] at hl
    case slice => cases quiet <;> simp at hl
    case call cl =>
      revert hl
      dsimp only
      split <;> intro hl <;> first | (cases hl; done) | (cases quiet <;> simp at hl)
    rename_i t p y
    obtain ⟨b0, l0, rfl, hb0⟩ : ∃ b0 l0, quiet = some (b0 :: l0) ∧ b0 ≠ 999999 := by
      revert hl
      split
      · rename_i b0 l0
        intro h
        exact ⟨b0, l0, rfl, fun e => by rw [if_pos e] at h; cases h⟩
      · intro h; cases h
    have hb' : ∀ k, keyOf (σ.ev p) = some k → k ∈ b0 :: l0 := by
      have h1 : heldB (some (b0 :: l0)) (σ.ev p) := hb
      exact h1.resolve_left hb0
    simp only [St.mk.injEq] at e
    simp only [opS] at h
    split at h
    · rename_i m2 c2 hs
      simp only [Option.some.injEq, Prod.mk.injEq] at h
      obtain ⟨rfl, rfl, rfl⟩ := h
      have key : ∃ K e, keyOf (σ.ev p) = some K ∧ e ≠ .gone ∧ m2 = upd σ.m K e ∧ σ.m K ≠ .gone ∧ ∀ m : Mem, m K = σ.m K → storeS P t m (σ.ev p) (σ.ev y) = some (upd m K e, c2) := by
        unfold storeS at hs
        split at hs
        · rename_i X k ver off hx
          split at hs
          · rename_i ver' cells as s hm ha hsz
            split at hs
            · rename_i hcc
              simp only [Option.some.injEq, Prod.mk.injEq] at hs
              obtain ⟨rfl, rfl⟩ := hs
              exact ⟨k, _, by rw [hx]; rfl, by simp, rfl, by rw [hm]; simp, fun m hmk => by rw [hx]; simp only [storeS, hmk, hm, ha, hsz, if_pos hcc]⟩
            · cases hs
          · cases hs
        · rename_i X k ver sz i off hx
          split at hs
          · rename_i ver' sz' rows us s hm ha hsz
            split at hs
            · rename_i hcc
              simp only [Option.some.injEq, Prod.mk.injEq] at hs
              obtain ⟨rfl, rfl⟩ := hs
              exact ⟨k, _, by rw [hx]; rfl, by simp, rfl, by rw [hm]; simp, fun m hmk => by rw [hx]; simp only [storeS, hmk, hm, ha, hsz, if_pos hcc]⟩
            · cases hs
          · cases hs
        · cases hs
      obtain ⟨K, en, hK, hen, hm2, hlive, hall⟩ := key
      refine ⟨t, p, y, K, en, _, rfl, rfl, hb' K hK, hK, hen, e.2.trans hm2, hlive, fun m hmk => .act hg hd (.op (.at .dead) _ c2 ?_ hc (by rw [e.1]) (by rw [okQ_mem (m' := σ.m)]; exact hb))⟩
      have hp : (⟨σ.t, m⟩ : St).ev p = σ.ev p := by cases p <;> rfl
      have hy : (⟨σ.t, m⟩ : St).ev y = σ.ev y := by cases y <;> rfl
      simp only [opS, hp, hy, hall m hmk]
    · cases h
  | call cl f ho hf h hq =>
    exfalso
    obtain ⟨dst, op, type, pos, after, guard⟩ := o
    simp only at ho
    subst ho
    simp only [clsOf, hf] at hl
    cases quiet <;> simp at hl

theorem swap (hA : Alive P nx nt σ) (ha : oj.apart ops oi = true) (hc : (clsOf quiet oj).comm (clsOf quiet oi) = true) (hdj : clsOf quiet oj = .n ∨ clsOf quiet oj = .k → oj.dst.isSome = true) (hdi : clsOf quiet oi = .n ∨ clsOf quiet oi = .k → oi.dst.isSome = true)
    (hj : Stp P nx nt quiet ops oj σ σ1) (hi : Stp P nx nt quiet ops oi σ1 σ2) : ∃ σ', Stp P nx nt quiet ops oi σ σ' ∧ Stp P nx nt quiet ops oj σ' σ2 := by
  obtain ⟨xj, mj, rfl⟩ := stp_form hj
  obtain ⟨xi, mi, rfl⟩ := stp_form hi
  simp only at hi ⊢
  -- a step that is passed over
  rcases stp_skip_or_act hj with ⟨hp, he⟩ | ⟨hgj, hdj', haj⟩
  · simp only [St.mk.injEq] at he
    obtain ⟨h1, rfl⟩ := he
    rw [h1] at hi ⊢
    exact swap_pure_left ha hp hi
  rcases stp_skip_or_act hi with ⟨hp, he⟩ | ⟨hgi, hdi', hai⟩
  · simp only [St.mk.injEq] at he
    obtain ⟨h1, rfl⟩ := he
    rw [h1]
    exact swap_pure_right ha hj hp
  by_cases hpj : clsOf quiet oj = .p
  · obtain ⟨rfl, hp⟩ := stp_pure hpj hj
    exact swap_pure_left ha hp hi
  by_cases hpi : clsOf quiet oi = .p
  · obtain ⟨rfl, hp⟩ := stp_pure hpi hi
    exact swap_pure_right ha hj hp
  have back : ∀ {m : Mem}, Stp P nx nt quiet ops oi ⟨putD σ.t oj.dst xj, σ.m⟩ ⟨putD (putD σ.t oj.dst xj) oi.dst xi, m⟩ → Stp P nx nt quiet ops oi σ ⟨putD σ.t oi.dst xi, m⟩ := fun h =>
    stp_again' (σ := ⟨putD σ.t oj.dst xj, σ.m⟩) (τ := σ) (fun d hd => (apart_looks ha d hd).symm) rfl h
  have forth : ∀ {m m' : Mem}, Stp P nx nt quiet ops oj ⟨σ.t, m⟩ ⟨putD σ.t oj.dst xj, m'⟩ → Stp P nx nt quiet ops oj ⟨putD σ.t oi.dst xi, m⟩ ⟨putD (putD σ.t oj.dst xj) oi.dst xi, m'⟩ := fun {m m'} h => by
    rw [apart_comm ha]
    exact stp_again' (σ := ⟨σ.t, m⟩) (τ := ⟨putD σ.t oi.dst xi, m⟩) (fun d hd => apart_looks' ha d hd) rfl h
  have hevo : ∀ y ∈ oi.op.operands.toList, (⟨putD σ.t oj.dst xj, mj⟩ : St).ev y = σ.ev y := by
    intro y hy
    refine putD_ev fun t' ht' hd => ?_
    subst ht'
    have := (Oper.apart_spec ha).1 t' hd
    exact this (looks_op hy)
  have hev : ∀ t y, oi.op = .load t y → (⟨putD σ.t oj.dst xj, mj⟩ : St).ev y = σ.ev y := fun t y ho => hevo y (by rw [ho]; simp [Op.operands])
  have growLoad : (clsOf quiet oj = .a ∨ clsOf quiet oj = .b) → clsOf quiet oi = .l → ∃ σ', Stp P nx nt quiet ops oi σ σ' ∧ Stp P nx nt quiet ops oj σ' ⟨putD (putD σ.t oj.dst xj) oi.dst xi, mi⟩ := by
    intro hcj hci
    obtain ⟨K, v, s, r, rfl, hK, hja⟩ := app_at hcj hgj hdj' haj
    obtain ⟨rfl, _, hli⟩ := load_at hci hgi hdi' hai
    refine ⟨_, back (hli σ.m fun t y ho => ?_), forth hj⟩
    rw [hev t y ho]
    refine (loadS_same fun k hkk => .inl (upd_ne _ _ fun hke => ?_)).symm
    subst hke
    obtain ⟨sz, i, off, hy⟩ := load_ver hci hai ho (by rw [hev t y ho]; exact hkk) (upd_same _ _ _)
    rw [hev t y ho] at hy
    have hv := hA.paver y hy
    rcases hK with ⟨_, hg⟩ | ⟨_, v', s', r', hm, hlt, _⟩
    · exact hA.key y hkk hg
    · rw [hm] at hv; simp only [Ent.ver] at hv; omega
  have growNew : (clsOf quiet oj = .a ∨ clsOf quiet oj = .b) → clsOf quiet oi = .n → ∃ σ', Stp P nx nt quiet ops oi σ σ' ∧ Stp P nx nt quiet ops oj σ' ⟨putD (putD σ.t oj.dst xj) oi.dst xi, mi⟩ := by
    intro hcj hci
    obtain ⟨K, v, s, r, rfl, hK, hja⟩ := app_at hcj hgj hdj' haj
    obtain ⟨e, rfl, hgone, hni⟩ := new_at hci hgi hdi' hai
    have hne : siteOf oi.dst ≠ K := by intro he; simp only [he, upd_same, reduceCtorEq] at hgone
    simp only [upd_ne _ _ hne] at hgone
    refine ⟨_, back (hni σ.m hgone), ?_⟩
    have := hja (upd σ.m (siteOf oi.dst) e) (upd_ne _ _ (Ne.symm hne)) fun y _ j hj => upd_ne _ _ fun he => hA.keyW y hj (by rw [he]; exact hgone)
    have hu : upd (upd σ.m K (.arr v s r)) (siteOf oi.dst) e = upd (upd σ.m (siteOf oi.dst) e) K (.arr v s r) := by
      funext k
      simp only [upd]
      by_cases h1 : k = siteOf oi.dst
      · subst h1; simp [hne]
      · simp [h1]
    rw [hu]
    exact forth this
  cases hcj : clsOf quiet oj <;> cases hci : clsOf quiet oi <;> rw [hcj, hci] at hc <;> simp only [Cls.comm, Bool.false_eq_true] at hc <;> first | (exact absurd hcj hpj) | (exact absurd hci hpi) | skip
  · -- two loads
    obtain ⟨rfl, _, hlj⟩ := load_at hcj hgj hdj' haj
    obtain ⟨rfl, _, hli⟩ := load_at hci hgi hdi' hai
    exact ⟨_, back hi, forth hj⟩
  · -- a load, a new block
    obtain ⟨rfl, hk, hlj⟩ := load_at hcj hgj hdj' haj
    obtain ⟨e, rfl, hgone, hni⟩ := new_at hci hgi hdi' hai
    refine ⟨_, back hi, forth (hlj _ fun t y ho => loadS_same fun k hkk => .inl (upd_ne _ _ fun hke => hk t y ho k hkk (by rw [hke]; exact hgone)))⟩
  · -- a load, a call
    obtain ⟨rfl, hk, hlj⟩ := load_at hcj hgj hdj' haj
    have hsame := call_at hci hai
    refine ⟨_, back hi, forth (hlj _ fun t y ho => loadS_same fun k hkk => (hsame k (hk t y ho k hkk)).resolve_right ?_)⟩
    rintro ⟨ban, hq, hkb⟩
    have hfr := load_free hcj haj ho
    rw [hq] at hfr
    exact hfr k hkk hkb
  · -- a load, an array that grows
    have happ : ∀ m, Stp P nx nt quiet ops oi ⟨putD σ.t oj.dst xj, σ.m⟩ ⟨putD (putD σ.t oj.dst xj) oi.dst xi, m⟩ → Stp P nx nt quiet ops oi σ ⟨putD σ.t oi.dst xi, m⟩ := fun m => back
    obtain ⟨rfl, hk, hlj⟩ := load_at hcj hgj hdj' haj
    obtain ⟨K, v, s, r, rfl, hK, hai'⟩ := app_at (.inl hci) hgi hdi' hai
    refine ⟨_, back hi, forth (hlj _ fun t y ho => loadS_same fun k hkk => .inl (upd_ne _ _ fun hke => ?_))⟩
    subst hke
    rcases hK with ⟨_, hg⟩ | ⟨_, v', s', r', hm, _, hr⟩
    · exact hk t y ho k hkk hg
    · obtain ⟨ban, hqq⟩ : ∃ ban, quiet = some ban := by
        cases quiet with
        | some ban => exact ⟨ban, rfl⟩
        | none =>
          exfalso
          obtain ⟨dst, op, type, pos, after, guard⟩ := oi
          cases op <;> simp only [clsOf, reduceCtorEq, Option.isSome_none, Bool.false_eq_true, if_false] at hci
          split at hci <;> cases hci
      rcases hr ban hqq with hr | hr
      · rw [hr] at hm
        exact load_row hcj haj ho hkk hm
      · have hfr := load_free hcj haj ho
        rw [hqq] at hfr
        exact hfr _ hkk hr
  · -- a load, a store
    obtain ⟨rfl, hk, hlj⟩ := load_at hcj hgj hdj' haj
    obtain ⟨t, p, y, K, e, ban, ho, hq, hKb, hKp, hen, rfl, hKl, hsi⟩ := store_at hci hgi hdi' hai
    refine ⟨_, back hi, forth (hlj _ fun t y ho' => loadS_same fun k hkk => .inl (upd_ne _ _ fun hke => ?_))⟩
    have hfr := load_free hcj haj ho'
    rw [hq] at hfr
    exact hfr k hkk (by rw [hke]; exact hKb)
  · -- a new block, a load
    obtain ⟨e, rfl, hgone, hnj⟩ := new_at hcj hgj hdj' haj
    obtain ⟨rfl, _, hli⟩ := load_at hci hgi hdi' hai
    refine ⟨_, back (hli σ.m fun t y ho => ?_), forth hj⟩
    rw [hev t y ho]
    refine (loadS_same fun k hkk => .inl (upd_ne _ _ fun hke => ?_)).symm
    exact hA.key y hkk (by rw [hke]; exact hgone)
  · -- two new blocks
    obtain ⟨ej, rfl, hgj', hnj⟩ := new_at hcj hgj hdj' haj
    obtain ⟨ei, rfl, hgi', hni⟩ := new_at hci hgi hdi' hai
    have hne : siteOf oi.dst ≠ siteOf oj.dst := by
      have := site_ne (hdi (.inl hci)) (hdj (.inl hcj)) (fun k hk hk' => (Oper.apart_spec ha).2.1 k hk' hk) (j := 0) (by omega)
      simpa using this
    simp only [upd_ne _ _ hne] at hgi'
    refine ⟨_, back (hni σ.m hgi'), ?_⟩
    have := hnj (upd σ.m (siteOf oi.dst) ei) (by rw [upd_ne _ _ (Ne.symm hne)]; exact hgj')
    have hu : upd (upd σ.m (siteOf oj.dst) ej) (siteOf oi.dst) ei = upd (upd σ.m (siteOf oi.dst) ei) (siteOf oj.dst) ej := by
      funext k
      simp only [upd]
      by_cases h1 : k = siteOf oi.dst
      · subst h1; simp [hne]
      · simp [h1]
    rw [hu]
    exact forth this
  · -- a new block, a store
    obtain ⟨e, rfl, hgone, hnj⟩ := new_at hcj hgj hdj' haj
    obtain ⟨t, p, y, K, e', ban, ho, hq, hKb, hKp, hen, rfl, hKl, hsi⟩ := store_at hci hgi hdi' hai
    have hp := hevo p (by rw [ho]; simp [Op.operands])
    rw [hp] at hKp
    have hlive := hA.key p hKp
    have hne : K ≠ siteOf oj.dst := fun he => hlive (by rw [he]; exact hgone)
    have h1 := hsi σ.m (upd_ne _ _ hne).symm
    refine ⟨_, back h1, ?_⟩
    have h2 := hnj (upd σ.m K e') (by rw [upd_ne _ _ (Ne.symm hne)]; exact hgone)
    have hu : upd (upd σ.m (siteOf oj.dst) e) K e' = upd (upd σ.m K e') (siteOf oj.dst) e := by
      funext k
      simp only [upd]
      by_cases h1 : k = K
      · subst h1; simp [hne]
      · simp [h1]
    rw [hu]
    exact forth h2
  · -- a call, a load
    have hsame := call_at hcj haj
    obtain ⟨rfl, _, hli⟩ := load_at hci hgi hdi' hai
    refine ⟨_, back (hli σ.m fun t y ho => ?_), forth hj⟩
    have hfr := load_free hci hai ho
    rw [hev t y ho] at hfr ⊢
    refine (loadS_same fun k hkk => (hsame k (hA.key y hkk)).resolve_right ?_).symm
    rintro ⟨ban, hq, hkb⟩
    rw [hq] at hfr
    exact hfr k hkk hkb
  · -- a call, a new block
    obtain ⟨e, rfl, hgone, hni⟩ := new_at hci hgi hdi' hai
    have hsite : ∀ j, j < 16 → siteOf oi.dst ≠ siteOf oj.dst + j := fun j hj => site_ne (hdi (.inl hci)) (hdj (.inr hcj)) (fun k hk hk' => (Oper.apart_spec ha).2.1 k hk' hk) hj
    obtain ⟨hg0, hall⟩ := call_new hA hcj hgj hdj' haj hgone hsite
    exact ⟨_, back (hni σ.m hg0), forth (hall e)⟩
  · exact growLoad (.inl hcj) hci
  · exact growNew (.inl hcj) hci
  · exact growLoad (.inr hcj) hci
  · exact growNew (.inr hcj) hci
  · -- a store, a load
    obtain ⟨t, p, y, K, e, ban, ho, hq, hKb, hKp, hen, rfl, hKl, hsj⟩ := store_at hcj hgj hdj' haj
    obtain ⟨rfl, _, hli⟩ := load_at hci hgi hdi' hai
    refine ⟨_, back (hli σ.m fun t y ho' => ?_), forth hj⟩
    have hfr := load_free hci hai ho'
    rw [hev t y ho'] at hfr ⊢
    rw [hq] at hfr
    exact (loadS_same fun k hkk => .inl (upd_ne _ _ fun hke => hfr k hkk (by rw [hke]; exact hKb))).symm
  · -- a store, a new block
    obtain ⟨t, p, y, K, e', ban, ho, hq, hKb, hKp, hen, rfl, hKl, hsj⟩ := store_at hcj hgj hdj' haj
    obtain ⟨e, rfl, hgone, hni⟩ := new_at hci hgi hdi' hai
    have hne : siteOf oi.dst ≠ K := by intro he; rw [he] at hgone; simp only [upd_same] at hgone; exact hen hgone
    simp only [upd_ne _ _ hne] at hgone
    refine ⟨_, back (hni σ.m hgone), ?_⟩
    have h2 := hsj (upd σ.m (siteOf oi.dst) e) (upd_ne _ _ (Ne.symm hne))
    have hu : upd (upd σ.m K e') (siteOf oi.dst) e = upd (upd σ.m (siteOf oi.dst) e) K e' := by
      funext k
      simp only [upd]
      by_cases h1 : k = siteOf oi.dst
      · subst h1; simp [hne]
      · simp [h1]
    rw [hu]
    exact forth h2

end
end Go.Abs

/- A region that leaves its order open comes to what its own order comes to. -/
namespace Go.Abs
open Go.RowKit
set_option linter.unusedVariables false
set_option linter.unusedSimpArgs false

/-- Place j has gone before whenever place i may go. -/
def reach (ops : Array Oper) : Nat → Nat → Nat → Bool
  | 0, _, _ => false
  | n + 1, j, i =>
    match ops[i]? with
    | none => false
    | some o => o.after.any (fun e => Region.binds .any e && e.on == j) || o.after.any (fun e => Region.binds .any e && reach ops n j e.on)

def news (quiet : Qm) (o : Oper) : Bool := match clsOf quiet o with | .n => o.dst.isSome | .k => o.dst.isSome | _ => true

def pairOk (quiet : Qm) (ops : Array Oper) (oj oi : Oper) : Bool := oj.apart ops oi && (clsOf quiet oj).comm (clsOf quiet oi) && news quiet oj && news quiet oi

def anyOk (quiet : Qm) (fuel : Nat) (ops : Array Oper) : Bool :=
  (List.range ops.size).all fun i =>
    match ops[i]? with
    | none => true
    | some oi => oi.after.all (fun e => !Region.binds .any e || decide (e.on < i)) && (List.range i).all fun j =>
        reach ops fuel j i || match ops[j]? with | none => true | some oj => pairOk quiet ops oj oi

section
variable {P : Program} {nx nt : Nat} {quiet : Qm} {ops : Array Oper} {g : G} {F : Nat → Prop} {lam : Lam} {σ σ' : St} {a : Act} {w : World}

def Closed (ops : Array Oper) (listed : Array Bool) : Prop := ∀ k o, ops[k]? = some o → listed.getD k false = true → ∀ e ∈ o.after, Region.binds .any e = true → listed.getD e.on false = true

theorem reach_listed {listed : Array Bool} (hc : Closed ops listed) : ∀ (n j i : Nat) (o : Oper), ops[i]? = some o → (∀ e ∈ o.after, Region.binds .any e = true → listed.getD e.on false = true) → reach ops n j i = true → listed.getD j false = true := by
  intro n
  induction n with
  | zero => intro j i o _ _ h; cases h
  | succ n ih =>
    intro j i o ho hl h
    simp only [reach, ho, Bool.or_eq_true, Array.any_eq_true', Bool.and_eq_true, beq_iff_eq] at h
    rcases h with ⟨e, he, hb, rfl⟩ | ⟨e, he, hb, hr⟩
    · exact hl e he hb
    · have h1 := hl e he hb
      cases hoe : ops[e.on]? with
      | none =>
        cases n with
        | zero => cases hr
        | succ n => simp [reach, hoe] at hr
      | some o' => exact ih j e.on o' hoe (hc e.on o' hoe h1) hr

theorem news_spec {o : Oper} (h : news quiet o = true) : clsOf quiet o = .n ∨ clsOf quiet o = .k → o.dst.isSome = true := by
  rintro (hn | hn) <;> simpa [news, hn] using h

theorem front {i : Nat} {oi : Oper} (hoi : ops[i]? = some oi) {A B : List Nat} (hA : Alive P nx nt σ) (hp : ∀ j ∈ A, ∀ oj, ops[j]? = some oj → pairOk quiet ops oj oi = true) (hr : Run P nx nt quiet ops (A ++ i :: B) σ σ') :
    ∃ σ1, Stp P nx nt quiet ops oi σ σ1 ∧ Run P nx nt quiet ops (A ++ B) σ1 σ' := by
  induction A generalizing σ with
  | nil =>
    cases hr with
    | cons ho h hr =>
      rw [hoi] at ho; cases ho
      exact ⟨_, h, hr⟩
  | cons j A ih =>
    cases hr with
    | cons ho h hr =>
      rename_i oj σa
      obtain ⟨σb, h1, h2⟩ := ih (hA.stp h) (fun k hk => hp k (List.mem_cons_of_mem _ hk)) hr
      have hq := hp j (List.mem_cons_self ..) _ ho
      simp only [pairOk, Bool.and_eq_true] at hq
      obtain ⟨σc, h3, h4⟩ := swap hA hq.1.1.1 hq.1.1.2 (news_spec hq.1.2) (news_spec hq.2) h h1
      exact ⟨σc, h3, .cons ho h4 h2⟩

structure Rest (n : Nat) (listed : Array Bool) (L : List Nat) : Prop where
  size : listed.size = n
  mem : ∀ i, i ∈ L ↔ i < n ∧ listed.getD i true = false
  sort : L.Pairwise (· < ·)

theorem anyOk_spec {fuel : Nat} (h : anyOk quiet fuel ops = true) {i : Nat} {oi : Oper} (hi : ops[i]? = some oi) : (∀ e ∈ oi.after, Region.binds .any e = true → e.on < i) ∧
    ∀ j, j < i → reach ops fuel j i = true ∨ ∀ oj, ops[j]? = some oj → pairOk quiet ops oj oi = true := by
  have hlt := (Array.getElem?_eq_some_iff.1 hi).1
  simp only [anyOk, List.all_eq_true, List.mem_range] at h
  have h1 := h i hlt
  rw [hi] at h1
  simp only [Bool.and_eq_true, Array.all_eq_true_iff_forall_mem, List.all_eq_true, List.mem_range, Bool.or_eq_true, Bool.not_eq_true', decide_eq_true_eq] at h1
  refine ⟨fun e he hb => (h1.1 e he).resolve_left (by simp [hb]), fun j hj => ?_⟩
  rcases h1.2 j hj with h2 | h2
  · exact .inl h2
  · refine .inr fun oj hoj => ?_
    rw [hoj] at h2
    exact h2

theorem any_sound {fuel0 : Nat} (hok : anyOk quiet fuel0 ops = true) {Q : Exit → Act → World → Prop} (hn : ∀ F' lam' a' w', Inv g F' lam' σ' a' w' → Q .normal a' w') :
    ∀ (fuel : Nat) (listed : Array Bool) (L : List Nat) (F : Nat → Prop) (lam : Lam) (σ : St) (a : Act) (w : World), Rest ops.size listed L → Closed ops listed → Run g.P g.nx g.nt quiet ops L σ σ' → Inv g F lam σ a w → L.length ≤ fuel →
      wpAny g.P .any ops Q fuel listed a w := by
  have mem : ∀ {listed : Array Bool} {L : List Nat}, Rest ops.size listed L → ∀ {i}, i ∈ Region.ready .any ops listed → i ∈ L := by
    intro listed L hR i hi
    obtain ⟨h1, o, h2, _⟩ := mem_ready.1 hi
    exact (hR.mem i).2 ⟨(Array.getElem?_eq_some_iff.1 h2).1, h1⟩
  intro fuel
  induction fuel with
  | zero =>
    intro listed L F lam σ a w hR hC hr hI hl
    have : L = [] := List.eq_nil_of_length_eq_zero (Nat.le_zero.1 hl)
    subst this
    cases hr
    refine ⟨?_, hn _ _ _ _ hI⟩
    cases hrd : Region.ready .any ops listed with
    | nil => rfl
    | cons x xs => exact absurd (mem hR (i := x) (by rw [hrd]; simp)) (by simp)
  | succ fuel ih =>
    intro listed L F lam σ a w hR hC hr hI hl
    refine ⟨fun h0 => ?_, fun i hi => ?_⟩
    · cases L with
      | nil => cases hr; exact hn _ _ _ _ hI
      | cons i L =>
        exfalso
        obtain ⟨hilt, hiun⟩ := (hR.mem i).1 (by simp)
        have hoi : ops[i]? = some ops[i] := Array.getElem?_eq_getElem hilt
        have : i ∈ Region.ready .any ops listed := by
          refine mem_ready.2 ⟨hiun, _, hoi, fun e he hb => ?_⟩
          have hlt := (anyOk_spec hok hoi).1 e he hb
          have hnm : e.on ∉ i :: L := by
            intro hm
            rcases List.mem_cons.1 hm with hm | hm
            · omega
            · have := (List.pairwise_cons.1 hR.sort).1 _ hm; omega
          have h2 : listed.getD e.on true = true := by
            cases hh : listed.getD e.on true with
            | true => rfl
            | false => exact absurd ((hR.mem e.on).2 ⟨by omega, hh⟩) hnm
          have hsz : e.on < listed.size := by rw [hR.size]; omega
          simpa [Array.getD_eq_getD_getElem?, hsz] using h2
        rw [h0] at this; cases this
    · have hiL := mem hR hi
      obtain ⟨A, B, rfl⟩ := List.append_of_mem hiL
      obtain ⟨hun, oi, hoi, hall⟩ := mem_ready.1 hi
      have hsp := anyOk_spec hok hoi
      have hlt := (Array.getElem?_eq_some_iff.1 hoi).1
      obtain ⟨σ1, h1, h2⟩ := front hoi ⟨g, F, lam, a, w, rfl, rfl, rfl, hI⟩ (fun j hj oj hoj => by
        have hjL : j ∈ A ++ i :: B := List.mem_append_left _ hj
        have hji : j < i := (List.pairwise_append.1 hR.sort).2.2 j hj i (by simp)
        rcases hsp.2 j hji with h | h
        · have := reach_listed hC _ _ _ _ hoi hall h
          obtain ⟨hj1, hj2⟩ := (hR.mem j).1 hjL
          have hsz : j < listed.size := by rw [hR.size]; exact hj1
          simp [Array.getD_eq_getD_getElem?, hsz] at this hj2
          rw [this] at hj2; cases hj2
        · exact h oj hoj) hr
      have hsz : i < listed.size := by rw [hR.size]; exact hlt
      have hR' : Rest ops.size (listed.setIfInBounds i true) (A ++ B) := by
        refine ⟨by simpa using hR.size, fun k => ?_, ?_⟩
        · have hk := hR.mem k
          by_cases hki : k = i
          · subst hki
            have hnd : k ∉ A ++ B := by
              have := hR.sort.imp (fun {a b} (h : a < b) => Nat.ne_of_lt h)
              have hnd : (A ++ k :: B).Nodup := this
              simp only [List.nodup_append, List.nodup_cons] at hnd
              simp only [List.mem_append, not_or]
              exact ⟨fun h => hnd.2.2 k h k (by simp) rfl, hnd.2.1.1⟩
            simp [hsz]
            simpa using hnd
          · rw [getD_set_ne true (Ne.symm hki), ← hk]
            simp [hki]
        · have h := hR.sort
          simp only [List.pairwise_append, List.pairwise_cons] at h ⊢
          exact ⟨h.1, h.2.1.2, fun x hx y hy => h.2.2 x hx y (by simp [hy])⟩
      have hC' : Closed ops (listed.setIfInBounds i true) := by
        intro k o ho hk e he hb
        by_cases hki : k = i
        · subst hki
          rw [hoi] at ho; cases ho
          exact getD_set_true (hall e he hb)
        · rw [getD_set_ne false (Ne.symm hki)] at hk
          exact getD_set_true (hC k o ho hk e he hb)
      unfold wpOp
      rw [hoi]
      exact stp_sound hI rfl h1 fun F' lam' a' w' hI' => ih _ _ F' lam' _ a' w' hR' hC' h2 hI' (by simp at hl ⊢; omega)

theorem Inv.drawn (h : Inv g F lam σ a w) (n : Nat) : Inv g F lam σ a { w with drawn := n } where
  f1 := h.f1
  f2 := h.f2
  f3 := h.f3
  mem := ⟨h.mem.ent, h.mem.inj⟩
  l0 := h.l0
  sl := h.sl
  nt := h.nt
  chg := ⟨h.chg.os, h.chg.tape, h.chg.output, h.chg.size, h.chg.block, h.chg.bs⟩
  df := h.df

theorem rest0 (n : Nat) : Rest n (Array.replicate n false) (List.range n) where
  size := by simp
  mem i := by
    simp only [List.mem_range, Array.getD_eq_getD_getElem?]
    constructor
    · intro h; refine ⟨h, ?_⟩; simp [h]
    · exact fun h => h.1
  sort := List.pairwise_lt_range

/-- A region, drawn. -/
theorem region_drawn {id fuel0 : Nat} (hm : g.P.follows .mixedOrders = true) (hok : anyOk quiet fuel0 ops = true) (hr : Run g.P g.nx g.nt quiet ops (List.range ops.size) σ σ') (hI : Inv g F lam σ a w) {Q : Exit → Act → World → Prop}
    (hn : ∀ F' lam' a' w', Inv g F' lam' σ' a' w' → Q .normal a' w') : (Code.region id ops true).wp g.P Q a w :=
  wp_region_any hm (any_sound hok hn _ _ _ _ _ _ _ _ (rest0 _) (fun k o _ h => by
    exfalso
    simp only [Array.getD_eq_getD_getElem?] at h
    by_cases hk : k < ops.size
    · simp [hk] at h
    · simp [hk] at h) hr (hI.drawn _) (by simp))

/-- A region in its own order. -/
theorem region_plain {id : Nat} (hr : Run g.P g.nx g.nt quiet ops (List.range ops.size) σ σ') (hI : Inv g F lam σ a w) {Q : Exit → Act → World → Prop}
    (hn : ∀ F' lam' a' w', Inv g F' lam' σ' a' w' → Q .normal a' w') : (Code.region id ops false).wp g.P Q a w :=
  wp_region (run_sound hr hI hn)

end
end Go.Abs

/- Code as a step from frame to frame. -/
namespace Go.Abs
open Go.RowKit
set_option linter.unusedVariables false
set_option linter.unusedSimpArgs false

abbrev Post := Exit → St → Prop

/-- From every frame that is as told, the code comes to one that is as told. -/
def T (P : Program) (nx nt : Nat) (c : Code) (Q : Post) (σ : St) : Prop :=
  ∀ (g : G) (F : Nat → Prop) (lam : Lam) (a : Act) (w : World), g.P = P → g.nx = nx → g.nt = nt → Inv g F lam σ a w →
    c.wp P (fun e a' w' => ∃ σ' F' lam', Q e σ' ∧ Inv g F' lam' σ' a' w') a w

def thenS (K : St → Prop) (Q : Post) : Post
  | .normal, σ => K σ
  | e, σ => Q e σ
def blockS (id : Nat) (Q : Post) : Post
  | .exit id', σ => if id' = id then Q .normal σ else Q (.exit id') σ
  | e, σ => Q e σ

section
variable {P : Program} {nx nt : Nat} {Q Q' : Post} {σ σ' : St} {x y : Code} {id : Nat}

theorem T.mono (h : T P nx nt x Q σ) (hq : ∀ e σ, Q e σ → Q' e σ) : T P nx nt x Q' σ := fun g F lam a w h1 h2 h3 hI =>
  wp_mono (h g F lam a w h1 h2 h3 hI) fun e a w ⟨σ', F', lam', q, hI'⟩ => ⟨σ', F', lam', hq _ _ q, hI'⟩

theorem T.weak (hw : Weak nx σ σ') (h : T P nx nt x Q σ') : T P nx nt x Q σ := fun g F lam a w h1 h2 h3 hI =>
  let ⟨F', lam', hI'⟩ := hw g F lam a w h2 hI
  h g F' lam' a w h1 h2 h3 hI'

theorem T.skip (h : Q .normal σ) : T P nx nt .skip Q σ := fun g F lam a w _ _ _ hI => wp_skip ⟨σ, F, lam, h, hI⟩
theorem T.exit (h : Q (.exit id) σ) : T P nx nt (.exit id) Q σ := fun g F lam a w _ _ _ hI => wp_exit ⟨σ, F, lam, h, hI⟩
theorem T.ret (h : Q .ret σ) : T P nx nt .ret Q σ := fun g F lam a w _ _ _ hI => wp_ret ⟨σ, F, lam, h, hI⟩

theorem T.seq (h : T P nx nt x (thenS (T P nx nt y Q) Q) σ) : T P nx nt (.seq x y) Q σ := fun g F lam a w h1 h2 h3 hI =>
  wp_seq (wp_mono (h g F lam a w h1 h2 h3 hI) fun e a w ⟨σ', F', lam', q, hI'⟩ => by
    cases e with
    | normal => exact q g F' lam' a w h1 h2 h3 hI'
    | _ => exact ⟨σ', F', lam', q, hI'⟩)

theorem T.block (h : T P nx nt x (blockS id Q) σ) : T P nx nt (.block id x) Q σ := fun g F lam a w h1 h2 h3 hI =>
  wp_block (wp_mono (h g F lam a w h1 h2 h3 hI) fun e a w ⟨σ', F', lam', q, hI'⟩ => by
    cases e with
    | exit id' =>
      simp only [blockS] at q
      simp only [Exit.inBlock]
      split at q
      · rename_i he; rw [if_pos he]; exact ⟨σ', F', lam', q, hI'⟩
      · rename_i he; rw [if_neg he]; exact ⟨σ', F', lam', q, hI'⟩
    | _ => exact ⟨σ', F', lam', q, hI'⟩)

theorem T.cond {c : Operand} {b : Bool} (hc : σ.ev c = .at (.v (.bool b))) (ht : b = true → T P nx nt x Q σ) (hf : b = false → T P nx nt y Q σ) : T P nx nt (.cond c x y) Q σ := fun g F lam a w h1 h2 h3 hI => by
  have hv := hI.ev c
  rw [hc] at hv
  exact wp_cond_split hv.1 (fun h => ht h g F lam a w h1 h2 h3 hI) (fun h => hf h g F lam a w h1 h2 h3 hI)

theorem wp_rounds {c : Code} {R : Exit → Act → World → Prop} (I : Nat → Act → World → Prop) (round : ∀ n a w, I n a w → c.wp P (Exit.then (fun a' w' => ∃ n', n' < n ∧ I n' a' w') R) a w) {n : Nat} {a : Act} {w : World} (h0 : I n a w) : (Code.loop c).wp P R a w := by
  intro b k cs
  have key : ∀ n a w, I n a w → ∃ e a' w', R e a' w' ∧ Arrives P (lone (b.at a (.code c :: .inLoop c :: k)) cs w) b k cs e a' w' := by
    intro n
    induction n using Nat.strongRecOn with
    | _ n ih =>
      intro a w hI
      obtain ⟨e, a1, w1, hq, harr⟩ := round n a w hI b (.inLoop c :: k) cs
      cases e with
      | normal =>
        obtain ⟨n', hlt, hI1⟩ := hq
        obtain ⟨e2, a2, w2, hq2, harr2⟩ := ih n' hlt a1 w1 hI1
        exact ⟨e2, a2, w2, hq2, .of_steps (Steps.trans harr (.one step_inLoop)) harr2⟩
      | exit id => exact ⟨_, a1, w1, hq, .pass (x := .inLoop c) rfl (fun _ _ => .inl (by simp)) harr⟩
      | goto l => exact ⟨_, a1, w1, hq, .pass (x := .inLoop c) rfl (fun _ _ => .inl (by simp)) harr⟩
      | ret => exact ⟨_, a1, w1, hq, .pass (x := .inLoop c) rfl (fun _ _ => .inl (by simp)) harr⟩
      | panic ch => exact ⟨_, a1, w1, hq, .pass (x := .inLoop c) rfl (fun _ _ => .inl (by simp)) harr⟩
      | outgrown => exact ⟨_, a1, w1, hq, .pass (x := .inLoop c) rfl (fun _ _ => .inl (by simp)) harr⟩
  obtain ⟨e, a', w', hq, harr⟩ := key _ a w h0
  exact ⟨e, a', w', hq, .of_steps (.one step_loop) harr⟩

theorem T.loop (I : Nat → St → Prop) (n : Nat) (h0 : I n σ) (round : ∀ n σ, I n σ → T P nx nt x (thenS (fun σ' => ∃ n', n' < n ∧ I n' σ') Q) σ) : T P nx nt (.loop x) Q σ := fun g F lam a w h1 h2 h3 hI =>
  wp_rounds (I := fun n a w => ∃ σ F lam, I n σ ∧ Inv g F lam σ a w) (fun n a w ⟨σ, F, lam, hn, hI⟩ => wp_mono (round n σ hn g F lam a w h1 h2 h3 hI) fun e a w ⟨σ', F', lam', q, hI'⟩ => by
    cases e with
    | normal => obtain ⟨n', hlt, hn'⟩ := q; exact ⟨n', hlt, σ', F', lam', hn', hI'⟩
    | _ => exact ⟨σ', F', lam', q, hI'⟩) (n := n) ⟨σ, F, lam, h0, hI⟩

/-- The steps of a region, one by one. -/
def callC (P : Program) (nx : Nat) (f : FuncId) (avs : List AV) (d : Option Nat) (K : St → Prop) (σ : St) : Prop := ∃ σ', CallStp P nx σ f avs d σ' ∧ K σ'
def callQ (P : Program) (nx : Nat) (ban : List Nat) (f : FuncId) (avs : List AV) (d : Option Nat) (K : St → Prop) (σ : St) : Prop :=
  ∃ σ', (∃ keys bor fz args res ext', (∀ k ∈ keys, k ∈ ban) ∧ CallOk nx σ.m keys bor fz (siteOf d) ∧ BackOk σ.m keys bor fz ext' (freshes res) res ∧ subT (avs.map (passV keys bor σ.m)) args ∧
      SC P f args (exts keys σ.m) res ext' ∧ σ' = ⟨putD σ.t d (backV σ.m keys (siteOf d) (instV 1000 res)), backM σ.m keys bor fz (siteOf d) ext' (freshes res)⟩) ∧ K σ'
def opC (P : Program) (nx : Nat) (quiet : Qm) (o : Oper) (K : St → Prop) (σ : St) : Prop :=
  okQ quiet o σ ∧ match opS P nx quiet o σ with
  | some (x, m', c) => c ∧ K ⟨putD σ.t o.dst x, m'⟩
  | none => False
def actC (P : Program) (nx : Nat) (quiet : Qm) (o : Oper) (K : St → Prop) (σ : St) : Prop :=
  match o.op with
  | .call c => match c.callee with
    | .value (.func f) => (match quiet with | some ban => callQ P nx ban f (c.args.toList.map σ.ev) o.dst K σ | none => callC P nx f (c.args.toList.map σ.ev) o.dst K σ)
    | _ => opC P nx quiet o K σ
  | _ => opC P nx quiet o K σ
def dstOk (nt : Nat) : Option Nat → Bool
  | none => true
  | some d => decide (d < nt)
/-- A guard: what each outcome must show; the third: the guard's own step was passed over. -/
def guardK (x : AV) (want : Bool) (K1 K2 K3 : Prop) : Prop :=
  match x with
  | .at (.v (.bool b)) => (b = want → K1) ∧ (b = (!want) → K2)
  | .tp [] => K3
  | _ => False
def stepC (P : Program) (nx nt : Nat) (quiet : Qm) (ops : Array Oper) (o : Oper) (K : St → Prop) (σ : St) : Prop :=
  dstOk nt o.dst = true ∧
  match o.guard with
  | none => actC P nx quiet o K σ
  | some p =>
    match (ops[p.1]?).bind (·.dst) with
    | some d => guardK (σ.t d) p.2 (actC P nx quiet o K σ) (K ⟨putD σ.t o.dst (.tp []), σ.m⟩) (K ⟨putD σ.t o.dst (.tp []), σ.m⟩)
    | none => False
def runC (P : Program) (nx nt : Nat) (quiet : Qm) (ops : Array Oper) : List Oper → (St → Prop) → St → Prop
  | [], K, σ => K σ
  | o :: L, K, σ => stepC P nx nt quiet ops o (runC P nx nt quiet ops L K) σ

theorem CallStp.ofQ {ban : List Nat} {f : FuncId} {avs : List AV} {d : Option Nat} {K : St → Prop} (h : callQ P nx ban f avs d K σ) : callC P nx f avs d K σ := by
  obtain ⟨σ', ⟨keys, bor, fz, args, res, ext', _, h1, h2, h3, h4, h5⟩, hk⟩ := h
  exact ⟨σ', ⟨keys, bor, fz, args, res, ext', h1, h2, h3, h4, h5⟩, hk⟩

theorem actC_sound {quiet : Qm} {o : Oper} {K : St → Prop} (h : actC P nx quiet o K σ) : ∃ σ', ActStp P nx quiet o σ σ' ∧ K σ' := by
  have op : opC P nx quiet o K σ → ∃ σ', ActStp P nx quiet o σ σ' ∧ K σ' := by
    rintro ⟨hb, h⟩
    split at h
    · rename_i x m' c hx
      exact ⟨_, .op x m' c hx h.1 rfl hb, h.2⟩
    · exact h.elim
  unfold actC at h
  split at h
  · rename_i cl ho
    split at h
    · rename_i f hf
      cases quiet with
      | some ban =>
        obtain ⟨σ', ⟨keys, bor, fz, args, res, ext', h0, h1, h2, h3, h4, h5⟩, hk⟩ := h
        exact ⟨σ', .call cl f ho hf ⟨keys, bor, fz, args, res, ext', h1, h2, h3, h4, h5⟩ (fun b hb => by cases hb; exact ⟨keys, bor, fz, args, res, ext', h0, h1, h2, h3, h4, h5⟩), hk⟩
      | none =>
        obtain ⟨σ', h1, hk⟩ := h
        exact ⟨σ', .call cl f ho hf h1 (fun b h => by cases h), hk⟩
    · exact op h
  · exact op h

theorem stepC_sound {quiet : Qm} {ops : Array Oper} {o : Oper} {K : St → Prop} (h : stepC P nx nt quiet ops o K σ) : ∃ σ', Stp P nx nt quiet ops o σ σ' ∧ K σ' := by
  obtain ⟨hd, h⟩ := h
  have hd' : ∀ d, o.dst = some d → d < nt := fun d e => by rw [e] at hd; simpa [dstOk] using hd
  cases hg : o.guard with
  | none =>
    rw [hg] at h
    obtain ⟨σ', h1, h2⟩ := actC_sound h
    exact ⟨σ', .act (.inl (by simp [guardOf, hg])) hd' h1, h2⟩
  | some p =>
    rw [hg] at h
    dsimp only at h
    cases hp : (ops[p.1]?).bind (·.dst) with
    | none => rw [hp] at h; exact h.elim
    | some d =>
      rw [hp] at h
      dsimp only at h
      have hgo : guardOf ops o = some (some d, p.2) := by simp [guardOf, hg, hp]
      unfold guardK at h
      split at h
      · rename_i b hb
        by_cases hbp : b = p.2
        · obtain ⟨σ', h3, h4⟩ := actC_sound (h.1 hbp)
          exact ⟨σ', .act (.inr ⟨d, p.2, hgo, by rw [hb, hbp]⟩) hd' h3, h4⟩
        · exact ⟨_, .skip d p.2 hgo (by rw [hb]; exact hbp) hd' rfl, h.2 (by cases b <;> cases hp2 : p.2 <;> simp_all)⟩
      · rename_i hb
        exact ⟨_, .skip d p.2 hgo (by rw [hb]; trivial) hd' rfl, h⟩
      · exact h.elim

theorem runC_sound {quiet : Qm} {ops : Array Oper} {K : St → Prop} : ∀ (L : List Oper) (k : Nat) (σ : St), ops.toList.drop k = L → runC P nx nt quiet ops L K σ → ∃ σ', Run P nx nt quiet ops (List.range' k L.length) σ σ' ∧ K σ' := by
  intro L
  induction L with
  | nil => intro k σ _ h; exact ⟨σ, .nil σ, h⟩
  | cons o L ih =>
    intro k σ hL h
    obtain ⟨σ1, h1, h2⟩ := stepC_sound h
    have hk : ops.toList[k]? = some o := by
      have := congrArg (·[0]?) hL
      simpa using this
    obtain ⟨σ2, h3, h4⟩ := ih (k + 1) σ1 (by rw [← List.drop_drop, hL]; rfl) h2
    refine ⟨σ2, ?_, h4⟩
    rw [List.length_cons, List.range'_succ]
    exact .cons (by simpa using hk) h1 h3

theorem T.region {ops : Array Oper} (h : runC P nx nt none ops ops.toList (Q .normal) σ) : T P nx nt (.region id ops false) Q σ := fun g F lam a w h1 h2 h3 hI => by
  obtain ⟨σ', hr, hq⟩ := runC_sound ops.toList 0 σ rfl h
  subst h1; subst h2; subst h3
  exact region_plain (quiet := none) (by rw [List.range_eq_range']; simpa using hr) hI fun F' lam' a' w' hI' => ⟨σ', F', lam', hq, hI'⟩

theorem T.drawn {ops : Array Oper} (quiet : Qm) (fuel : Nat) (hm : P.follows .mixedOrders = true) (hok : anyOk quiet fuel ops = true) (h : runC P nx nt quiet ops ops.toList (Q .normal) σ) : T P nx nt (.region id ops true) Q σ := fun g F lam a w h1 h2 h3 hI => by
  obtain ⟨σ', hr, hq⟩ := runC_sound ops.toList 0 σ rfl h
  subst h1; subst h2; subst h3
  exact region_drawn hm hok (by rw [List.range_eq_range']; simpa using hr) hI fun F' lam' a' w' hI' => ⟨σ', F', lam', hq, hI'⟩

end
end Go.Abs

/- A function's contract out of its body. -/
namespace Go.Abs
open Go.RowKit
set_option linter.unusedVariables false
set_option linter.unusedSimpArgs false

def slotsOf : Nat → List AV → List (Nat × AV)
  | _, [] => []
  | n, x :: xs => (n, x) :: slotsOf (n + 1) xs

/-- The frame at a function's begin. -/
def startS (args : List AV) (ext : List Ent) : St := ⟨ofT (slotsOf 0 args), ofM ext.length 1000 ext []⟩

/-- What the results' places hold at the end. -/
def resAt (P : Program) (σ : St) : List ResultVar → List AV → Prop
  | [], [] => True
  | .tmp t :: rs, x :: xs => σ.t t = x ∧ resAt P σ rs xs
  | .cell a t :: rs, x :: xs => (∃ k ver off c, σ.t a = .at (.bx k ver off) ∧ loadS P t σ.m (σ.t a) = some (x, c) ∧ c) ∧ resAt P σ rs xs
  | _, _ => False

def oneOf : List AV → AV
  | [x] => x
  | xs => .tp xs

def subR : AV → AV → Prop
  | .tp xs, .tp ys => subT xs ys
  | x, y => subV x y

/-- The frame at a function's end gives what is told. -/
def finS (P : Program) (nx : Nat) (fn : Func) (res : AV) (ext' : List Ent) : Post
  | .normal, σ | .ret, σ => ∃ σ1 xs ks, Weak nx σ σ1 ∧ resAt P σ1 fn.results.toList xs ∧ nx ≤ 1000 ∧ ks.Nodup ∧ (∀ k ∈ ks, nx ≤ k) ∧ subR (renV (invOf nx 1000 ks) σ1.m (oneOf xs)) (instV 1000 res) ∧
      ((List.range nx).map fun k => renE (invOf nx 1000 ks) σ1.m (σ1.m k)) = ext' ∧ (ks.map fun k => renE (invOf nx 1000 ks) σ1.m (σ1.m k)) = freshes res
  | _, _ => False

section
variable {P : Program} {g : G} {F : Nat → Prop} {lam : Lam} {σ : St} {a : Act} {w : World}

theorem RV1.of_RV {m : Mem} {x : AV} {u : Value} (h : RV w F m lam x u) (hx : ∀ xs, x ≠ .tp xs) : RV1 w F m lam x u := by
  cases x with
  | «at» a => exact h
  | ag cs => exact h
  | tp xs => exact absurd rfl (hx xs)

theorem slots_get (args : List AV) (us : List Value) (n0 : Nat) (m : Mem) (hl : args.length = us.length) (h : ∀ (i : Nat) (x : AV) (u : Value), args[i]? = some x → us[i]? = some u → RV1 w F m lam x u) (vs : Nat → Value) (hv : ∀ i u, us[i]? = some u → vs (n0 + i) = u) (t : Nat) :
    RV w F m lam (ofT (slotsOf n0 args) t) (vs t) := by
  induction args generalizing us n0 with
  | nil => trivial
  | cons x args ih =>
    cases us with
    | nil => simp at hl
    | cons u us =>
      simp only [slotsOf, ofT]
      split
      · rename_i ht
        subst ht
        have h0 := h 0 x u rfl rfl
        have hu := hv 0 u rfl
        simp only [Nat.add_zero] at hu
        rw [hu]
        cases x with
        | «at» a => exact h0
        | ag cs => exact h0
        | tp xs => exact h0.elim
      · exact ih us (n0 + 1) (by simpa using hl) (fun i x' u' h1 h2 => h (i + 1) x' u' (by simpa using h1) (by simpa using h2)) (fun i u' hu => by
          have := hv (i + 1) u' (by simpa using hu)
          rw [show n0 + 1 + i = n0 + (i + 1) by omega]; exact this)

theorem MemRel.ofNt {P : Program} {w0 w : World} {F0 F : Nat → Prop} {lam0 lam : Lam} {nx n n' : Nat} {m : Mem} (h : MemRel (gOf P w0 F0 lam0 nx n) w F m lam) : MemRel (gOf P w0 F0 lam0 nx n') w F m lam := ⟨h.ent, h.inj⟩
theorem Chg.ofNt {P : Program} {w0 w : World} {F0 : Nat → Prop} {lam0 : Lam} {nx n n' : Nat} (h : Chg (gOf P w0 F0 lam0 nx n) w) : Chg (gOf P w0 F0 lam0 nx n') w := ⟨h.os, h.tape, h.output, h.size, h.block, h.bs⟩

theorem subR_RV {m : Mem} {x y : AV} {u : Value} (h : subR x y) (hR : RV w F m lam x u) : RV w F m lam y u := by
  cases x with
  | tp xs => cases y with
    | tp ys =>
      obtain ⟨us, h1, h2, h3⟩ := hR
      obtain ⟨h4, h5⟩ := subT_get h
      refine ⟨us, h1, by omega, fun i y0 u0 hy hu => ?_⟩
      have hi : i < xs.length := by rw [h4]; exact (List.getElem?_eq_some_iff.1 hy).1
      exact (h3 i xs[i] u0 (List.getElem?_eq_getElem hi) hu).sub (h5 i _ _ (List.getElem?_eq_getElem hi) hy)
    | _ => exact h.elim
  | «at» a0 => cases y with
    | «at» b => exact RV1.sub (x := .at a0) (y := .at b) h hR
    | _ => exact h.elim
  | ag as => cases y with
    | ag bs => exact RV1.sub (x := .ag as) (y := .ag bs) h hR
    | _ => exact h.elim

def valueOf : List Value → Value
  | [v] => v
  | vs => .tuple vs.toArray

theorem run_cell {t : TypeId} {b o : Nat} : (do loadVar t (← asAddr (.pointer (some ⟨b, o, none⟩))) : Sem Value).run P w = (Instr.loadAt t (.pointer (some ⟨b, o, none⟩))).run P w := by
  simp [asAddr, Instr.loadAt, Instr.sureAddr]

theorem results_each (hI : Inv g F lam σ a w) {f : ResultVar → Sem Value} (hf : ∀ t, f (.tmp t) = pure (a.tmps.getD t undef)) (hc : ∀ s t, f (.cell s t) = (do loadVar t (← asAddr (a.tmps.getD s undef)))) :
    ∀ (rs : List ResultVar) (xs : List AV), resAt g.P σ rs xs → ∃ vs : List Value, (rs.mapM f).run g.P w = .ok vs w ∧ vs.length = xs.length ∧ ∀ (i : Nat) (x : AV) (v : Value), xs[i]? = some x → vs[i]? = some v → RV w F σ.m lam x v := by
  intro rs
  induction rs with
  | nil =>
    intro xs h
    cases xs with
    | nil => exact ⟨[], by simp [pure, Sem.run], rfl, by simp⟩
    | cons x xs => exact h.elim
  | cons r rs ih =>
    intro xs h
    cases xs with
    | nil => cases r <;> exact h.elim
    | cons x xs =>
      have step : ∀ u, (f r).run g.P w = .ok u w → RV w F σ.m lam x u → resAt g.P σ rs xs → ∃ vs : List Value, ((r :: rs).mapM f).run g.P w = .ok vs w ∧ vs.length = (x :: xs).length ∧ ∀ (i : Nat) (y : AV) (v : Value), (x :: xs)[i]? = some y → vs[i]? = some v → RV w F σ.m lam y v := by
        intro u hu hR hrest
        obtain ⟨vs, h1, h2, h3⟩ := ih xs hrest
        refine ⟨u :: vs, by simp [List.mapM_cons, Sem.run_bind, hu, h1], by simp [h2], fun i y v hy hv => ?_⟩
        cases i with
        | zero => simp at hy hv; subst hy; subst hv; exact hR
        | succ i => exact h3 i y v (by simpa using hy) (by simpa using hv)
      cases r with
      | tmp t =>
        obtain ⟨rfl, hrest⟩ := h
        exact step _ (by rw [hf]; simp) (hI.sl t) hrest
      | cell s t =>
        obtain ⟨⟨k, ver, off, c, hs, hl, hcc⟩, hrest⟩ := h
        have hp := hI.sl s
        obtain ⟨v, hv, hR⟩ := run_loadS hI hl hcc hp
        rw [hs] at hp
        obtain ⟨_, ⟨b, o, hu⟩, _⟩ := hp
        refine step v ?_ hR hrest
        rw [hc, hu, run_cell, ← hu]
        exact hv

theorem results_run (hI : Inv g F lam σ a w) {fn : Func} {xs : List AV} (h : resAt g.P σ fn.results.toList xs) : ∃ vs : List Value, (results fn a.tmps).run g.P w = .ok (valueOf vs) w ∧ vs.length = xs.length ∧ ∀ (i : Nat) (x : AV) (v : Value), xs[i]? = some x → vs[i]? = some v → RV w F σ.m lam x v := by
  have gen : ∀ f : ResultVar → Sem Value, (∀ t, f (.tmp t) = pure (a.tmps.getD t undef)) → (∀ s t, f (.cell s t) = (do loadVar t (← asAddr (a.tmps.getD s undef)))) →
      ∃ vs : List Value, ((do let vs ← List.toArray <$> fn.results.toList.mapM f; pure (if h : vs.size = 1 then vs[0] else .tuple vs)) : Sem Value).run g.P w = .ok (valueOf vs) w ∧ vs.length = xs.length ∧ ∀ (i : Nat) (x : AV) (v : Value), xs[i]? = some x → vs[i]? = some v → RV w F σ.m lam x v := by
    intro f hf hc
    obtain ⟨vs, h1, h2, h3⟩ := results_each hI hf hc _ _ h
    refine ⟨vs, ?_, h2, h3⟩
    rw [Sem.run_bind, Sem.run_map, h1]
    rcases vs with _ | ⟨v, _ | ⟨v', vs'⟩⟩
    · rfl
    · rfl
    · simp [valueOf]
  unfold results
  rw [Array.mapM_eq_mapM_toList]
  exact gen _ (fun t => rfl) (fun s t => rfl)

theorem RV_oneOf {m : Mem} {xs : List AV} {vs : List Value} (hl : vs.length = xs.length) (h : ∀ (i : Nat) (x : AV) (v : Value), xs[i]? = some x → vs[i]? = some v → RV w F m lam x v) (hn : 2 ≤ xs.length ∨ xs = [] → ∀ x ∈ xs, ∀ zs, x ≠ .tp zs) : RV w F m lam (oneOf xs) (valueOf vs) := by
  have gen : (∀ x ∈ xs, ∀ zs, x ≠ .tp zs) → RV w F m lam (.tp xs) (.tuple vs.toArray) := fun hn =>
    ⟨vs, rfl, hl.symm, fun i x y hx hy => RV1.of_RV (h i x y hx hy) (hn x (List.mem_of_getElem? hx))⟩
  rcases xs with _ | ⟨x, _ | ⟨x', xs'⟩⟩
  · rcases vs with _ | ⟨v, vs⟩
    · exact gen (by simp)
    · simp at hl
  · rcases vs with _ | ⟨v, _ | ⟨v', vs'⟩⟩
    · simp at hl
    · exact h 0 x v rfl rfl
    · simp at hl
  · rcases vs with _ | ⟨v, _ | ⟨v', vs'⟩⟩
    · simp at hl
    · simp at hl
    · exact gen (hn (.inl (by simp)))

theorem subT_noTp {xs ys : List AV} (h : subT xs ys) (i : Nat) (x : AV) (hx : xs[i]? = some x) : ∀ zs, x ≠ .tp zs := by
  obtain ⟨h1, h2⟩ := subT_get h
  have hi : i < ys.length := by rw [← h1]; exact (List.getElem?_eq_some_iff.1 hx).1
  have := h2 i x _ hx (List.getElem?_eq_getElem hi)
  rintro zs rfl
  exact this

theorem SC.of_T {f : FuncId} {fn : Func} {c : Code} {args : List AV} {ext : List Ent} {res : AV} {ext' : List Ent} (hf : P.funcs[f]? = some fn) (hn : (fn.name == "runtime.NumGoroutine") = false) (hb : fn.body = some c)
    (hsz : args.length ≤ fn.ntmps) (h : T P ext.length fn.ntmps c (finS P ext.length fn res ext') (startS args ext)) : SC P f args ext res ext' := by
  refine ⟨⟨fn, hf, hn, by simp [hb]⟩, fun w F lam us hF hM hl hv => ?_⟩
  refine calls_of_wp hf hb ?_
  have hus : us.toArray.size = us.length := by simp
  have htm : ∀ t, (us.toArray ++ Array.replicate (fn.ntmps - us.toArray.size) undef).getD t undef = us.getD t undef := by
    intro t
    simp only [Array.getD_eq_getD_getElem?, Array.getElem?_append, List.getD_eq_getElem?_getD]
    by_cases ht : t < us.length
    · simp [ht]
    · simp only [hus, ht, if_false, Array.getElem?_replicate]
      rw [List.getElem?_eq_none (by omega)]
      split <;> rfl
  have hI : Inv (gOf P w F lam ext.length fn.ntmps) F lam (startS args ext) { tmps := us.toArray ++ Array.replicate (fn.ntmps - us.toArray.size) undef, defers := [] } w := {
    f1 := fun b h => h, f2 := fun b _ h => h, f3 := hF
    mem := hM.ofNt
    l0 := fun k _ => rfl
    sl := fun t => by
      show RV w F _ lam (ofT (slotsOf 0 args) t) (Array.getD _ t undef)
      refine slots_get args us 0 _ hl hv (fun t => (us.toArray ++ Array.replicate (fn.ntmps - us.toArray.size) undef).getD t undef) (fun i u hu => ?_) t
      simp only [Nat.zero_add, htm, List.getD_eq_getElem?_getD, hu, Option.getD_some]
    nt := by simp [gOf]; omega
    chg := ⟨rfl, rfl, rfl, Nat.le_refl _, fun _ _ _ => rfl, fun _ => Nat.le_refl _⟩
    df := rfl }
  have key : ∀ a' w', (∃ σ' F' lam', finS P ext.length fn res ext' .ret σ' ∧ Inv (gOf P w F lam ext.length fn.ntmps) F' lam' σ' a' w') → a'.defers = [] ∧ ∃ v, (results fn a'.tmps).run P w' = .ok v w' ∧
      ∃ v0 F' lam', Ending.returned v = .returned v0 ∧ (∀ b, F b → F' b) ∧ (∀ b, b < w.heap.size → F' b → F b) ∧ (∀ b, F' b → b < w'.heap.size) ∧
      Chg (gOf P w F lam ext.length 0) w' ∧ (∀ k, k < ext.length → lam' k = lam k) ∧
      MemRel (gOf P w F lam ext.length 0) w' F' (ofM ext.length 1000 ext' (freshes res)) lam' ∧ RV w' F' (ofM ext.length 1000 ext' (freshes res)) lam' (instV 1000 res) v0 := by
    rintro a' w' ⟨σ', F', lam', ⟨σ2, xs, ks, hw, hxs, hnx, hnd, hown, hr, he, hfr⟩, hI'⟩
    obtain ⟨F2, lam2, hI2⟩ := hw _ _ _ _ _ rfl hI'
    have ho := RenOk.of ext.length 1000 ks hnx hnd hown
    have hm : renM (rOf ext.length 1000 ks) (invOf ext.length 1000 ks) σ2.m = ofM ext.length 1000 ext' (freshes res) := by
      rw [← ofM_renM _ _ _ _ hnx, he, hfr]
    obtain ⟨vs, hrun, hvl, hvs⟩ := results_run hI2 hxs
    have hRV : RV w' F2 σ2.m lam2 (oneOf xs) (valueOf vs) := RV_oneOf hvl hvs fun hlen x hx zs hz => by
      subst hz
      obtain ⟨i, hi⟩ := List.getElem?_of_mem hx
      have hone : oneOf xs = .tp xs := by
        rcases xs with _ | ⟨x0, _ | ⟨x1, xs'⟩⟩
        · rfl
        · simp at hlen
        · rfl
      rw [hone] at hr
      simp only [renV] at hr
      cases hres : instV 1000 res with
      | tp ys =>
        rw [hres] at hr
        exact subT_noTp hr i (.tp zs) (by rw [List.getElem?_map, hi]; rfl) zs rfl
      | _ => rw [hres] at hr; exact hr.elim
    have hRV2 := subR_RV hr (hRV.ren ho hI2.mem.ent)
    have hMem := hI2.mem.ren ho
    rw [hm] at hRV2 hMem
    exact ⟨hI2.df, _, hrun, _, F2, _, rfl, hI2.f1, hI2.f2, hI2.f3, hI2.chg.ofNt, fun k hk => by simp only [renL, ho.ext k hk]; exact hI2.l0 k hk, hMem.ofNt, hRV2⟩
  refine wp_mono (h _ F lam _ w rfl rfl rfl hI) fun e a' w' hq => ?_
  cases e with
  | normal => exact key a' w' hq
  | ret => exact key a' w' hq
  | _ => obtain ⟨_, _, _, hq, _⟩ := hq; exact hq.elim

end
end Go.Abs
