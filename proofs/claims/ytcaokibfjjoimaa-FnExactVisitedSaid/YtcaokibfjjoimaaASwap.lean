/- A region that leaves its order open: two steps that may change places. -/
import Derived.Test.YtcaokibfjjoimaaAOrder
namespace Go.Abs
open Go.RowKit
set_option linter.unusedVariables false
set_option linter.unusedSimpArgs false

/-- The key that a pointer goes by. -/
def keyOf : AV → Option Nat
  | .at (.bx k _ _) => some k
  | .at (.pa k _ _ _ _) => some k
  | _ => none

theorem loadS_same {P : Program} {t : TypeId} {m m' : Mem} {X : AV} (h : ∀ k, keyOf X = some k → m' k = m k ∨ ∃ v s r, (m k = .arr v s r ∧ m' k = .ice v s r) ∨ (m k = .ice v s r ∧ m' k = .arr v s r)) : loadS P t m' X = loadS P t m X := by
  unfold loadS
  split
  · rename_i k ver off
    rcases h k rfl with h | ⟨v, s, r, ⟨h1, h2⟩ | ⟨h1, h2⟩⟩
    · rw [h]
    · rw [h1, h2]
    · rw [h1, h2]
  · rename_i k ver sz i off
    rcases h k rfl with h | ⟨v, s, r, ⟨h1, h2⟩ | ⟨h1, h2⟩⟩
    · rw [h]
    · rw [h1, h2]
    · rw [h1, h2]
  · rfl
  · rfl

theorem loadS_live {P : Program} {t : TypeId} {m : Mem} {X : AV} {r : AV × Prop} (h : loadS P t m X = some r) {k : Nat} (hk : keyOf X = some k) : m k ≠ .gone := by
  intro hg
  unfold loadS at h
  split at h
  · simp only [keyOf, Option.some.injEq] at hk; subst hk; rw [hg] at h; cases h
  · simp only [keyOf, Option.some.injEq] at hk; subst hk; rw [hg] at h; cases h
  · cases hk
  · cases h

theorem Alive.key {P : Program} {nx nt : Nat} {σ : St} (h : Alive P nx nt σ) (x : Operand) {k : Nat} (hk : keyOf (σ.ev x) = some k) : σ.m k ≠ .gone := by
  obtain ⟨g, F, lam, a, w, _, _, _, hI⟩ := h
  have hv := hI.ev x
  cases he : σ.ev x with
  | «at» A0 =>
    rw [he] at hk hv
    cases A0 <;> simp only [keyOf, Option.some.injEq, reduceCtorEq] at hk
    · subst hk; exact hv.1.1
    · subst hk; exact hv.1.1
  | ag cs => rw [he] at hk; cases hk
  | tp xs => rw [he] at hk; cases hk

section
variable {P : Program} {nx nt : Nat} {quiet : Bool} {ops : Array Oper} {o oj oi : Oper} {σ τ σ1 σ2 : St}

theorem opS_load (hl : clsOf quiet o = .l) {x : AV} {m' : Mem} {c : Prop} (h : opS P nx quiet o σ = some (x, m', c)) : ∃ t y, o.op = .load t y ∧ m' = σ.m ∧ loadS P t σ.m (σ.ev y) = some (x, c) := by
  obtain ⟨dst, op, type, pos, after, guard⟩ := o
  cases op <;> simp only [clsOf, reduceCtorEq] at hl
  · rename_i t y
    simp only [opS] at h
    split at h
    · rename_i v c' hv
      simp only [Option.some.injEq, Prod.mk.injEq] at h; obtain ⟨rfl, rfl, rfl⟩ := h
      exact ⟨t, y, rfl, rfl, hv⟩
    · cases h
  · split at hl <;> cases hl
  · split at hl <;> first | (cases hl; done) | (split at hl <;> cases hl)

theorem opS_new (hl : clsOf quiet o = .n) {x : AV} {m' : Mem} {c : Prop} (h : opS P nx quiet o σ = some (x, m', c)) : ∃ e, m' = upd σ.m (siteOf o.dst) e ∧ σ.m (siteOf o.dst) = .gone ∧
    ∀ τ : St, (∀ y ∈ o.op.operands.toList, τ.ev y = σ.ev y) → τ.m (siteOf o.dst) = .gone → opS P nx quiet o τ = some (x, upd τ.m (siteOf o.dst) e, c) := by
  obtain ⟨dst, op, type, pos, after, guard⟩ := o
  cases op <;> simp only [clsOf, reduceCtorEq] at hl
  · rename_i t
    simp only [opS] at h
    split at h
    · rename_i as hg has
      split at h
      · rename_i hs
        simp only [Option.some.injEq, Prod.mk.injEq] at h; obtain ⟨rfl, rfl, rfl⟩ := h
        exact ⟨_, rfl, hg, fun τ hev hτ => by simp only [opS, hτ, has, hs, if_true]⟩
      · cases h
    · cases h
  · rename_i t x'
    simp only [opS] at h
    split at h
    · rename_i as hg has
      simp only [Option.some.injEq, Prod.mk.injEq] at h; obtain ⟨rfl, rfl, rfl⟩ := h
      refine ⟨_, rfl, hg, fun τ hev hτ => ?_⟩
      have := hev x' (by simp [Op.operands])
      simp only [opS, hτ, this, has]
    · cases h
  · rename_i t len parts
    simp only [opS] at h
    split at h
    · rename_i e ht
      split at h
      · rename_i sz z hg hs hz
        split at h
        · rename_i hh
          split at h
          · rename_i rows hf
            simp only [Option.some.injEq, Prod.mk.injEq] at h; obtain ⟨rfl, rfl, rfl⟩ := h
            refine ⟨_, rfl, hg, fun τ hev hτ => ?_⟩
            have hfr : fillRows τ (sz + 1) parts.toList (List.replicate len z) = some rows := by
              rw [← hf]; exact fillRows_congr (fun p hp => hev p.2 (by simp only [Op.operands, List.mem_map]; exact ⟨p, hp, rfl⟩)) _
            simp only [opS, ht, hτ, hs, hz, hh, and_self, if_true, hfr]
          · cases h
        · cases h
      · cases h
    · cases h
  · rename_i t l cp
    simp only [opS] at h
    split at h
    · rename_i e k n k' n' ht hlv hcv
      split at h
      · rename_i sz z by_ hg hs hz hb
        split at h
        · rename_i hh
          simp only [Option.some.injEq, Prod.mk.injEq] at h; obtain ⟨rfl, rfl, rfl⟩ := h
          refine ⟨_, rfl, hg, fun τ hev hτ => ?_⟩
          have h1 := hev l (by simp [Op.operands])
          have h2 := hev cp (by simp [Op.operands])
          simp only [opS, ht, h1, h2, hlv, hcv, hτ, hs, hz, hb, hh, and_self, if_true]
        · cases h
      · cases h
    · cases h
  · split at hl <;> cases hl
  · split at hl <;> first | (cases hl; done) | (split at hl <;> cases hl)

theorem putD_ev {σ : St} {d : Option Nat} {x : AV} {m : Mem} {y : Operand} (h : ∀ t, y = .tmp t → d ≠ some t) : (⟨putD σ.t d x, m⟩ : St).ev y = σ.ev y := by
  cases y with
  | tmp t =>
    cases d with
    | none => rfl
    | some d' =>
      have : t ≠ d' := fun e => h t rfl (by rw [e])
      show upd σ.t d' x t = σ.t t
      exact upd_ne _ _ this
  | _ => rfl

theorem putD_comm {t : Nat → AV} {d d' : Option Nat} {x x' : AV} (h : ∀ k, d = some k → d' ≠ some k) : putD (putD t d x) d' x' = putD (putD t d' x') d x := by
  cases d with
  | none => rfl
  | some k =>
    cases d' with
    | none => rfl
    | some k' =>
      have hne : k' ≠ k := fun e => h k rfl (by rw [e])
      funext i
      simp only [putD, upd]
      by_cases h1 : i = k'
      · subst h1; simp [hne]
      · by_cases h2 : i = k
        · subst h2; simp [h1]
        · simp [h1, h2]

theorem looks_guard {d : Nat} {want : Bool} (h : guardOf ops o = some (some d, want)) : d ∈ o.looksAt ops := by
  unfold guardOf at h
  cases hg : o.guard with
  | none => simp [hg] at h
  | some p =>
    obtain ⟨j, wn⟩ := p
    simp only [hg, Option.map_some, Option.some.injEq, Prod.mk.injEq] at h
    simp only [Oper.looksAt, hg, List.mem_append]
    exact .inr (by rw [h.1]; simp)

theorem looks_op {t : Nat} (h : Operand.tmp t ∈ o.op.operands.toList) : t ∈ o.looksAt ops := by
  simp only [Oper.looksAt, List.mem_append, List.mem_filterMap]
  exact .inl ⟨.tmp t, h, rfl⟩

/-- What a step leaves: the slot and memory. -/
theorem stp_form (h : Stp P nx nt quiet ops o σ σ1) : ∃ x m', σ1 = ⟨putD σ.t o.dst x, m'⟩ := by
  cases h with
  | skip d want hg hb hd e => exact ⟨_, _, e⟩
  | act hg hd h =>
    cases h with
    | op x m' c h hc e => exact ⟨_, _, e⟩
    | call cl f ho hf h hq => obtain ⟨_, _, _, _, _, _, _, _, _, _, e⟩ := h.ex; exact ⟨_, _, e⟩

theorem guard_same (hs : ∀ d ∈ o.looksAt ops, τ.t d = σ.t d) : (guardOf ops o = none ∨ ∃ d want, guardOf ops o = some (some d, want) ∧ σ.t d = .at (.v (.bool want))) → guardOf ops o = none ∨ ∃ d want, guardOf ops o = some (some d, want) ∧ τ.t d = .at (.v (.bool want)) := by
  rintro (h | ⟨d, want, h, hb⟩)
  · exact .inl h
  · exact .inr ⟨d, want, h, (hs d (looks_guard h)).trans hb⟩

theorem ev_same (hs : ∀ d ∈ o.looksAt ops, τ.t d = σ.t d) : ∀ y ∈ o.op.operands.toList, τ.ev y = σ.ev y := by
  intro y hy
  cases y with
  | tmp t => exact hs t (looks_op hy)
  | _ => rfl

/-- The same step, at a frame that is alike where it looks. -/
theorem stp_again (hs : ∀ d ∈ o.looksAt ops, τ.t d = σ.t d) (hm : τ.m = σ.m) {x : AV} {m' : Mem} (h : Stp P nx nt quiet ops o σ ⟨putD σ.t o.dst x, m'⟩) :
    ∃ x', (∀ d, o.dst = some d → x' = x) ∧ Stp P nx nt quiet ops o τ ⟨putD τ.t o.dst x', m'⟩ := by
  have hx_of : ∀ {x1 : AV} {m1 : Mem}, (⟨putD σ.t o.dst x, m'⟩ : St) = ⟨putD σ.t o.dst x1, m1⟩ → m' = m1 ∧ ∀ d, o.dst = some d → x1 = x := by
    intro x1 m1 he
    simp only [St.mk.injEq] at he
    refine ⟨he.2, fun d hd => ?_⟩
    have := congrFun he.1 d
    rw [hd] at this
    simp only [putD, upd_same] at this
    exact this.symm
  cases h with
  | skip d want hg hb hd e =>
    obtain ⟨rfl, h1⟩ := hx_of e
    exact ⟨_, h1, .skip d want hg (by rw [hs d (looks_guard hg)]; exact hb) hd (by rw [hm])⟩
  | act hg hd h =>
    cases h with
    | op x1 m1 c h hc e =>
      obtain ⟨rfl, h1⟩ := hx_of e
      exact ⟨x1, h1, .act (guard_same hs hg) hd (.op x1 m' c (by rw [opS_congr (ev_same hs) hm]; exact h) hc rfl)⟩
    | call cl f ho hf h hq =>
      have hev : cl.args.toList.map τ.ev = cl.args.toList.map σ.ev := List.map_congr_left fun y hy => ev_same hs y (by
        simp only [ho, Op.operands, Call.operands, Array.toList_append, List.mem_append]; exact .inr hy)
      cases hquiet : quiet with
      | true =>
        obtain ⟨keys, bor, fz, args, res, ext', hk, hok, hbk, hsub, hsc, e⟩ := hq hquiet
        obtain ⟨rfl, h1⟩ := hx_of e
        refine ⟨_, h1, .act (guard_same hs hg) hd (.call cl f ho hf ⟨keys, bor, fz, args, res, ext', by rw [hm]; exact hok, by rw [hm]; exact hbk, by rw [hev, hm]; exact hsub, by rw [hm]; exact hsc, by rw [hm]⟩ fun _ => ⟨keys, bor, fz, args, res, ext', hk, by rw [hm]; exact hok, by rw [hm]; exact hbk, by rw [hev, hm]; exact hsub, by rw [hm]; exact hsc, by rw [hm]⟩)⟩
      | false =>
        obtain ⟨keys, bor, fz, args, res, ext', hok, hbk, hsub, hsc, e⟩ := h.ex
        obtain ⟨rfl, h1⟩ := hx_of e
        refine ⟨_, h1, .act (guard_same hs hg) hd (.call cl f ho hf ⟨keys, bor, fz, args, res, ext', by rw [hm]; exact hok, by rw [hm]; exact hbk, by rw [hev, hm]; exact hsub, by rw [hm]; exact hsc, by rw [hm]⟩ fun hh => by cases hh)⟩

theorem stp_again' (hs : ∀ d ∈ o.looksAt ops, τ.t d = σ.t d) (hm : τ.m = σ.m) {x : AV} {m' : Mem} (h : Stp P nx nt quiet ops o σ ⟨putD σ.t o.dst x, m'⟩) : Stp P nx nt quiet ops o τ ⟨putD τ.t o.dst x, m'⟩ := by
  obtain ⟨x', hx, h'⟩ := stp_again hs hm h
  cases hd : o.dst with
  | none => rw [hd] at h'; exact h'
  | some d => rw [hx d hd, hd] at h'; exact h'

/-- A step that does not look at memory leaves it, and can be done over any. -/
theorem stp_pure (hp : clsOf quiet o = .p) {x : AV} {m' : Mem} (h : Stp P nx nt quiet ops o σ ⟨putD σ.t o.dst x, m'⟩) : m' = σ.m ∧ ∀ m, Stp P nx nt quiet ops o ⟨σ.t, m⟩ ⟨putD σ.t o.dst x, m⟩ := by
  cases h with
  | skip d want hg hb hd e =>
    simp only [St.mk.injEq] at e
    refine ⟨e.2, fun m => .skip d want hg hb hd ?_⟩
    rw [e.1]
  | act hg hd h =>
    cases h with
    | op x1 m1 c h hc e =>
      simp only [St.mk.injEq] at e
      have h1 := opS_pure (P := P) (nx := nx) hp (t := σ.t) (m := σ.m) (m0 := σ.m)
      have h0 : opS P nx quiet o ⟨σ.t, σ.m⟩ = some (x1, m1, c) := h
      rw [h0] at h1
      simp only [Option.map_some, Option.some.injEq, Prod.mk.injEq, true_and, and_true] at h1
      refine ⟨e.2.trans h1, fun m => .act hg hd (.op x1 m c ?_ hc (by rw [e.1]))⟩
      rw [opS_pure hp (m0 := σ.m), h0]; rfl
    | call cl f ho hf h hq =>
      obtain ⟨dst, op, type, pos, after, guard⟩ := o
      simp only at ho
      subst ho
      simp only [clsOf, hf] at hp
      split at hp <;> cases hp

theorem stp_skip_or_act (h : Stp P nx nt quiet ops o σ σ1) : (∀ m, Stp P nx nt quiet ops o ⟨σ.t, m⟩ ⟨putD σ.t o.dst (.tp []), m⟩) ∧ σ1 = ⟨putD σ.t o.dst (.tp []), σ.m⟩ ∨
    ((guardOf ops o = none ∨ ∃ d want, guardOf ops o = some (some d, want) ∧ σ.t d = .at (.v (.bool want))) ∧ (∀ d, o.dst = some d → d < nt) ∧ ActStp P nx quiet o σ σ1) := by
  cases h with
  | skip d want hg hb hd e => exact .inl ⟨fun m => .skip d want hg hb hd rfl, e⟩
  | act hg hd h => exact .inr ⟨hg, hd, h⟩

/-- What is known where two operations are apart. -/
theorem apart_looks (ha : oj.apart ops oi = true) {t : Nat → AV} {x : AV} : ∀ d ∈ oi.looksAt ops, putD t oj.dst x d = t d := by
  intro d hd
  have := (Oper.apart_spec ha).1
  cases hj : oj.dst with
  | none => rfl
  | some k =>
    have hne : d ≠ k := fun e => this k hj (e ▸ hd)
    exact upd_ne _ _ hne
theorem apart_looks' (ha : oj.apart ops oi = true) {t : Nat → AV} {x : AV} : ∀ d ∈ oj.looksAt ops, putD t oi.dst x d = t d := by
  intro d hd
  have := (Oper.apart_spec ha).2.2
  cases hi : oi.dst with
  | none => rfl
  | some k =>
    have hne : d ≠ k := fun e => this k hi (e ▸ hd)
    exact upd_ne _ _ hne
theorem apart_comm (ha : oj.apart ops oi = true) {t : Nat → AV} {x y : AV} : putD (putD t oj.dst x) oi.dst y = putD (putD t oi.dst y) oj.dst x :=
  putD_comm fun k hk => (Oper.apart_spec ha).2.1 k hk

/-- One of the two leaves memory and does not look at it. -/
theorem swap_pure_left (ha : oj.apart ops oi = true) {x0 : AV} (hp : ∀ m, Stp P nx nt quiet ops oj ⟨σ.t, m⟩ ⟨putD σ.t oj.dst x0, m⟩) {xi : AV} {mi : Mem}
    (hi : Stp P nx nt quiet ops oi ⟨putD σ.t oj.dst x0, σ.m⟩ ⟨putD (putD σ.t oj.dst x0) oi.dst xi, mi⟩) :
    ∃ σ', Stp P nx nt quiet ops oi σ σ' ∧ Stp P nx nt quiet ops oj σ' ⟨putD (putD σ.t oj.dst x0) oi.dst xi, mi⟩ := by
  refine ⟨⟨putD σ.t oi.dst xi, mi⟩, ?_, ?_⟩
  · exact stp_again' (σ := ⟨putD σ.t oj.dst x0, σ.m⟩) (fun d hd => (apart_looks ha d hd).symm) rfl hi
  · rw [apart_comm ha]
    exact stp_again' (σ := ⟨σ.t, mi⟩) (τ := ⟨putD σ.t oi.dst xi, mi⟩) (fun d hd => apart_looks' ha d hd) rfl (hp mi)

theorem swap_pure_right (ha : oj.apart ops oi = true) {xj xi : AV} {mj : Mem} (hj : Stp P nx nt quiet ops oj σ ⟨putD σ.t oj.dst xj, mj⟩)
    (hp : ∀ m, Stp P nx nt quiet ops oi ⟨putD σ.t oj.dst xj, m⟩ ⟨putD (putD σ.t oj.dst xj) oi.dst xi, m⟩) :
    ∃ σ', Stp P nx nt quiet ops oi σ σ' ∧ Stp P nx nt quiet ops oj σ' ⟨putD (putD σ.t oj.dst xj) oi.dst xi, mj⟩ := by
  refine ⟨⟨putD σ.t oi.dst xi, σ.m⟩, ?_, ?_⟩
  · exact stp_again' (σ := ⟨putD σ.t oj.dst xj, σ.m⟩) (τ := σ) (fun d hd => (apart_looks ha d hd).symm) rfl (hp σ.m)
  · rw [apart_comm ha]
    exact stp_again' (σ := σ) (τ := ⟨putD σ.t oi.dst xi, σ.m⟩) (fun d hd => apart_looks' ha d hd) rfl hj

theorem site_ne {d d' : Option Nat} (h : d.isSome = true) (h' : d'.isSome = true) (hne : ∀ k, d = some k → d' ≠ some k) {j : Nat} (hj : j < 16) : siteOf d ≠ siteOf d' + j := by
  cases d with
  | none => cases h
  | some k =>
    cases d' with
    | none => cases h'
    | some k' =>
      have : k ≠ k' := fun e => hne k rfl (by rw [e])
      simp only [siteOf, Option.getD_some]
      omega

/-- What a call does to a place: it stands, or it is frozen, or it is new. -/
theorem backM_same {m : Mem} {bor : List Nat} {fz : Bool} {B : Nat} {ext' fs : List Ent} (ho : CallOk nx m [] bor fz B) (hf : fs.length ≤ 16) {k : Nat} (hk : m k ≠ .gone) :
    backM m [] bor fz B ext' fs k = m k ∨ ∃ v s r, (m k = .arr v s r ∧ backM m [] bor fz B ext' fs k = .ice v s r) ∨ (m k = .ice v s r ∧ backM m [] bor fz B ext' fs k = .arr v s r) := by
  have hidx : ([] : List Nat).idxOf? k = none := rfl
  simp only [backM, hidx]
  split
  · rename_i hc
    obtain ⟨⟨v, s, r, hm⟩, _⟩ := ho.bor k hc.2
    exact .inr ⟨v, s, r, .inl ⟨hm, by rw [hm]; rfl⟩⟩
  · split
    · rename_i h1 h2
      have := ho.site (k - B) (by omega)
      rw [show B + (k - B) = k by omega] at this
      exact absurd this hk
    · exact .inl rfl

theorem load_at (hl : clsOf quiet o = .l) (hg : guardOf ops o = none ∨ ∃ d want, guardOf ops o = some (some d, want) ∧ σ.t d = .at (.v (.bool want))) (hd : ∀ d, o.dst = some d → d < nt) {x : AV} {m' : Mem}
    (h : ActStp P nx quiet o σ ⟨putD σ.t o.dst x, m'⟩) : m' = σ.m ∧ (∀ t y, o.op = .load t y → ∀ k, keyOf (σ.ev y) = some k → σ.m k ≠ .gone) ∧
    ∀ m : Mem, (∀ t y, o.op = .load t y → loadS P t m (σ.ev y) = loadS P t σ.m (σ.ev y)) → Stp P nx nt quiet ops o ⟨σ.t, m⟩ ⟨putD σ.t o.dst x, m⟩ := by
  cases h with
  | op x1 m1 c h hc e =>
    simp only [St.mk.injEq] at e
    obtain ⟨t, y, ho, rfl, hls⟩ := opS_load hl h
    refine ⟨e.2, fun t' y' ho' k hk => ?_, fun m hm => .act hg hd (.op x1 m c ?_ hc (by rw [e.1]))⟩
    · rw [ho] at ho'; cases ho'; exact loadS_live hls hk
    · have h1 := hm t y ho
      obtain ⟨dst, op, type, pos, after, guard⟩ := o
      simp only at ho
      subst ho
      have hev : (⟨σ.t, m⟩ : St).ev y = σ.ev y := by cases y <;> rfl
      simp only [opS, hev, h1, hls]
  | call cl f ho hf h hq =>
    obtain ⟨dst, op, type, pos, after, guard⟩ := o
    simp only at ho
    subst ho
    simp only [clsOf, hf] at hl
    split at hl <;> cases hl

theorem new_at (hl : clsOf quiet o = .n) (hg : guardOf ops o = none ∨ ∃ d want, guardOf ops o = some (some d, want) ∧ σ.t d = .at (.v (.bool want))) (hd : ∀ d, o.dst = some d → d < nt) {x : AV} {m' : Mem}
    (h : ActStp P nx quiet o σ ⟨putD σ.t o.dst x, m'⟩) : ∃ e, m' = upd σ.m (siteOf o.dst) e ∧ σ.m (siteOf o.dst) = .gone ∧
    ∀ m : Mem, m (siteOf o.dst) = .gone → Stp P nx nt quiet ops o ⟨σ.t, m⟩ ⟨putD σ.t o.dst x, upd m (siteOf o.dst) e⟩ := by
  cases h with
  | op x1 m1 c h hc e =>
    simp only [St.mk.injEq] at e
    obtain ⟨en, rfl, hgone, hτ⟩ := opS_new hl h
    refine ⟨en, e.2, hgone, fun m hm => .act hg hd (.op x1 _ c (hτ ⟨σ.t, m⟩ (fun y _ => by cases y <;> rfl) hm) hc (by rw [e.1]))⟩
  | call cl f ho hf h hq =>
    obtain ⟨dst, op, type, pos, after, guard⟩ := o
    simp only at ho
    subst ho
    simp only [clsOf, hf] at hl
    split at hl <;> cases hl

theorem call_at (hl : clsOf quiet o = .k) {x : AV} {m' : Mem} (h : ActStp P nx quiet o σ ⟨putD σ.t o.dst x, m'⟩) : ∀ k, σ.m k ≠ .gone →
    m' k = σ.m k ∨ ∃ v s r, (σ.m k = .arr v s r ∧ m' k = .ice v s r) ∨ (σ.m k = .ice v s r ∧ m' k = .arr v s r) := by
  cases h with
  | op x1 m1 c h hc e =>
    exfalso
    obtain ⟨dst, op, type, pos, after, guard⟩ := o
    cases op <;> simp only [clsOf, reduceCtorEq] at hl
    · split at hl <;> cases hl
    · rename_i cl
      simp only [opS] at h
      split at h
      · rename_i b hb
        rw [hb] at hl
        cases b <;> simp at hl
      · cases h
  | call cl f ho hf h hq =>
    have hq1 : quiet = true := by
      obtain ⟨dst, op, type, pos, after, guard⟩ := o
      simp only at ho
      subst ho
      simp only [clsOf, hf] at hl
      cases quiet
      · cases hl
      · rfl
    obtain ⟨keys, bor, fz, args, res, ext', rfl, hok, hbk, hsub, hsc, e⟩ := hq hq1
    simp only [St.mk.injEq] at e
    intro k hk
    rw [e.2]
    exact backM_same hok hbk.few hk

theorem swap (hA : Alive P nx nt σ) (ha : oj.apart ops oi = true) (hc : (clsOf quiet oj).comm (clsOf quiet oi) = true) (hdj : clsOf quiet oj = .n → oj.dst.isSome = true) (hdi : clsOf quiet oi = .n → oi.dst.isSome = true)
    (hj : Stp P nx nt quiet ops oj σ σ1) (hi : Stp P nx nt quiet ops oi σ1 σ2) : ∃ σ', Stp P nx nt quiet ops oi σ σ' ∧ Stp P nx nt quiet ops oj σ' σ2 := by
  obtain ⟨xj, mj, rfl⟩ := stp_form hj
  obtain ⟨xi, mi, rfl⟩ := stp_form hi
  simp only at hi ⊢
  -- a step that is passed over
  rcases stp_skip_or_act hj with ⟨hp, he⟩ | ⟨hgj, hdj', haj⟩
  · simp only [St.mk.injEq] at he
    obtain ⟨h1, rfl⟩ := he
    rw [h1] at hi ⊢
    exact swap_pure_left ha hp hi
  rcases stp_skip_or_act hi with ⟨hp, he⟩ | ⟨hgi, hdi', hai⟩
  · simp only [St.mk.injEq] at he
    obtain ⟨h1, rfl⟩ := he
    rw [h1]
    exact swap_pure_right ha hj hp
  by_cases hpj : clsOf quiet oj = .p
  · obtain ⟨rfl, hp⟩ := stp_pure hpj hj
    exact swap_pure_left ha hp hi
  by_cases hpi : clsOf quiet oi = .p
  · obtain ⟨rfl, hp⟩ := stp_pure hpi hi
    exact swap_pure_right ha hj hp
  have back : ∀ {m : Mem}, Stp P nx nt quiet ops oi ⟨putD σ.t oj.dst xj, σ.m⟩ ⟨putD (putD σ.t oj.dst xj) oi.dst xi, m⟩ → Stp P nx nt quiet ops oi σ ⟨putD σ.t oi.dst xi, m⟩ := fun h =>
    stp_again' (σ := ⟨putD σ.t oj.dst xj, σ.m⟩) (τ := σ) (fun d hd => (apart_looks ha d hd).symm) rfl h
  have forth : ∀ {m m' : Mem}, Stp P nx nt quiet ops oj ⟨σ.t, m⟩ ⟨putD σ.t oj.dst xj, m'⟩ → Stp P nx nt quiet ops oj ⟨putD σ.t oi.dst xi, m⟩ ⟨putD (putD σ.t oj.dst xj) oi.dst xi, m'⟩ := fun {m m'} h => by
    rw [apart_comm ha]
    exact stp_again' (σ := ⟨σ.t, m⟩) (τ := ⟨putD σ.t oi.dst xi, m⟩) (fun d hd => apart_looks' ha d hd) rfl h
  have hev : ∀ t y, oi.op = .load t y → (⟨putD σ.t oj.dst xj, mj⟩ : St).ev y = σ.ev y := by
    intro t y ho
    refine putD_ev fun t' ht' hd => ?_
    subst ht'
    have := (Oper.apart_spec ha).1 t' hd
    exact this (looks_op (by rw [ho]; simp [Op.operands]))
  cases hcj : clsOf quiet oj <;> cases hci : clsOf quiet oi <;> rw [hcj, hci] at hc <;> simp only [Cls.comm, Bool.false_eq_true] at hc <;> first | (exact absurd hcj hpj) | (exact absurd hci hpi) | skip
  · -- two loads
    obtain ⟨rfl, _, hlj⟩ := load_at hcj hgj hdj' haj
    obtain ⟨rfl, _, hli⟩ := load_at hci hgi hdi' hai
    exact ⟨_, back hi, forth hj⟩
  · -- a load, a new block
    obtain ⟨rfl, hk, hlj⟩ := load_at hcj hgj hdj' haj
    obtain ⟨e, rfl, hgone, hni⟩ := new_at hci hgi hdi' hai
    refine ⟨_, back hi, forth (hlj _ fun t y ho => loadS_same fun k hkk => .inl (upd_ne _ _ fun hke => hk t y ho k hkk (by rw [hke]; exact hgone)))⟩
  · -- a load, a call
    obtain ⟨rfl, hk, hlj⟩ := load_at hcj hgj hdj' haj
    have hsame := call_at hci hai
    exact ⟨_, back hi, forth (hlj _ fun t y ho => loadS_same fun k hkk => hsame k (hk t y ho k hkk))⟩
  · -- a new block, a load
    obtain ⟨e, rfl, hgone, hnj⟩ := new_at hcj hgj hdj' haj
    obtain ⟨rfl, _, hli⟩ := load_at hci hgi hdi' hai
    refine ⟨_, back (hli σ.m fun t y ho => ?_), forth hj⟩
    rw [hev t y ho]
    refine (loadS_same fun k hkk => .inl (upd_ne _ _ fun hke => ?_)).symm
    exact hA.key y hkk (by rw [hke]; exact hgone)
  · -- two new blocks
    obtain ⟨ej, rfl, hgj', hnj⟩ := new_at hcj hgj hdj' haj
    obtain ⟨ei, rfl, hgi', hni⟩ := new_at hci hgi hdi' hai
    have hne : siteOf oi.dst ≠ siteOf oj.dst := by
      have := site_ne (hdi hci) (hdj hcj) (fun k hk hk' => (Oper.apart_spec ha).2.1 k hk' hk) (j := 0) (by omega)
      simpa using this
    simp only [upd_ne _ _ hne] at hgi'
    refine ⟨_, back (hni σ.m hgi'), ?_⟩
    have := hnj (upd σ.m (siteOf oi.dst) ei) (by rw [upd_ne _ _ (Ne.symm hne)]; exact hgj')
    have hu : upd (upd σ.m (siteOf oj.dst) ej) (siteOf oi.dst) ei = upd (upd σ.m (siteOf oi.dst) ei) (siteOf oj.dst) ej := by
      funext k
      simp only [upd]
      by_cases h1 : k = siteOf oi.dst
      · subst h1; simp [hne]
      · simp [h1]
    rw [hu]
    exact forth this
  · -- a call, a load
    have hsame := call_at hcj haj
    obtain ⟨rfl, _, hli⟩ := load_at hci hgi hdi' hai
    refine ⟨_, back (hli σ.m fun t y ho => ?_), forth hj⟩
    rw [hev t y ho]
    exact (loadS_same fun k hkk => hsame k (hA.key y hkk)).symm

end
end Go.Abs
