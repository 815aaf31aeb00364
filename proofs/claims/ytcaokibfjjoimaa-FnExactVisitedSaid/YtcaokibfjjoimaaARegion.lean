/- The operations of a region, in their order and in any order that the region leaves open. -/
import Derived.Test.YtcaokibfjjoimaaAStep
namespace Go.Abs
open Go.RowKit
set_option linter.unusedVariables false
set_option linter.unusedSimpArgs false

/-- The slot that an operation's guard looks at, and what it wants. -/
def guardOf (ops : Array Oper) (o : Oper) : Option (Option Nat × Bool) := o.guard.map fun p => ((ops[p.1]?).bind (·.dst), p.2)

inductive ActStp (P : Program) (nx : Nat) (quiet : Bool) (o : Oper) (σ σ' : St) : Prop
  | op (x : AV) (m' : Mem) (c : Prop) (h : opS P nx quiet o σ = some (x, m', c)) (hc : c) (e : σ' = ⟨putD σ.t o.dst x, m'⟩)
  | call (cl : Call) (f : FuncId) (ho : o.op = .call cl) (hf : cl.callee = .value (.func f)) (h : CallStp P nx σ f (cl.args.toList.map σ.ev) o.dst σ') (hq : quiet = true → ∃ keys bor fz args res ext', keys = [] ∧ CallOk nx σ.m keys bor fz (siteOf o.dst) ∧ BackOk σ.m keys bor fz ext' (freshes res) res ∧ subT ((cl.args.toList.map σ.ev).map (passV keys bor σ.m)) args ∧
      SC P f args (exts keys σ.m) res ext' ∧ σ' = ⟨putD σ.t o.dst (backV σ.m keys (siteOf o.dst) (instV 1000 res)), backM σ.m keys bor fz (siteOf o.dst) ext' (freshes res)⟩)

/-- A guard's slot tells that the operation is passed over. -/
def skipAt (x : AV) (want : Bool) : Prop :=
  match x with
  | .at (.v (.bool b)) => b ≠ want
  | .tp [] => True
  | _ => False

inductive Stp (P : Program) (nx nt : Nat) (quiet : Bool) (ops : Array Oper) (o : Oper) (σ σ' : St) : Prop
  | skip (d : Nat) (want : Bool) (hg : guardOf ops o = some (some d, want)) (hb : skipAt (σ.t d) want) (hd : ∀ d, o.dst = some d → d < nt) (e : σ' = ⟨putD σ.t o.dst (.tp []), σ.m⟩)
  | act (hg : guardOf ops o = none ∨ ∃ d want, guardOf ops o = some (some d, want) ∧ σ.t d = .at (.v (.bool want))) (hd : ∀ d, o.dst = some d → d < nt) (h : ActStp P nx quiet o σ σ')

section
variable {g : G} {F : Nat → Prop} {lam : Lam} {σ σ' : St} {a : Act} {w : World} {quiet : Bool} {ops : Array Oper} {o : Oper}

theorem wanted_of_none (h : guardOf ops o = none) (t : Array Value) : Region.wanted o (yielded ops t) = true := by
  unfold guardOf at h
  cases hg : o.guard with
  | none => simp [Region.wanted, hg]
  | some p => simp [hg] at h

theorem wanted_of_some {d : Nat} {want b : Bool} (hI : Inv g F lam σ a w) (h : guardOf ops o = some (some d, want)) (hb : σ.t d = .at (.v (.bool b))) : Region.wanted o (yielded ops a.tmps) = (b == want) := by
  unfold guardOf at h
  cases hg : o.guard with
  | none => simp [hg] at h
  | some p =>
    obtain ⟨j, wn⟩ := p
    simp only [hg, Option.map_some, Option.some.injEq, Prod.mk.injEq] at h
    obtain ⟨h1, rfl⟩ := h
    have hs := hI.sl d
    rw [hb] at hs
    have hv : a.tmps.getD d undef = .bool b := hs.1
    have hlt : d < a.tmps.size := by
      refine Decidable.byContradiction fun hge => ?_
      simp only [Array.getD_eq_getD_getElem?, Array.getElem?_eq_none (Nat.le_of_not_lt hge), Option.getD_none] at hv
      exact absurd hv (by simp [undef])
    have hget : a.tmps[d]? = some (.bool b) := by
      rw [Array.getElem?_eq_getElem hlt]
      rw [Array.getD_eq_getD_getElem?, Array.getElem?_eq_getElem hlt] at hv
      simpa using hv
    simp only [Region.wanted, hg, yielded, h1, Option.bind_some, hget]
    cases b <;> cases wn <;> rfl

theorem wanted_of_skip {d : Nat} {want : Bool} (hI : Inv g F lam σ a w) (h : guardOf ops o = some (some d, want)) (hb : skipAt (σ.t d) want) : Region.wanted o (yielded ops a.tmps) = false := by
  unfold skipAt at hb
  split at hb
  · rename_i b hx
    rw [wanted_of_some hI h hx]
    simpa using hb
  · rename_i hx
    unfold guardOf at h
    cases hg : o.guard with
    | none => simp [hg] at h
    | some p =>
      obtain ⟨j, wn⟩ := p
      simp only [hg, Option.map_some, Option.some.injEq, Prod.mk.injEq] at h
      obtain ⟨h1, rfl⟩ := h
      have hs := hI.sl d
      rw [hx] at hs
      obtain ⟨us, hu, hl, _⟩ := hs
      have hnil : us = [] := List.eq_nil_of_length_eq_zero (by simpa using hl.symm)
      subst hnil
      simp only [Region.wanted, hg, yielded, h1, Option.bind_some]
      have hv : a.tmps.getD d undef = .tuple #[] := hu
      cases hget : a.tmps[d]? with
      | none => rfl
      | some v =>
        rw [Array.getD_eq_getD_getElem?, hget] at hv
        simp only [Option.getD_some] at hv
        subst hv; rfl
  · exact hb.elim

theorem RV_undef {m : Mem} : RV w F m lam (.tp []) undef := ⟨[], rfl, rfl, by simp⟩

theorem stp_sound (hI : Inv g F lam σ a w) {nt : Nat} (hnt : g.nt = nt) (h : Stp g.P g.nx nt quiet ops o σ σ') {K : Act → World → Prop} {Q : Exit → Act → World → Prop} (hn : ∀ F' lam' a' w', Inv g F' lam' σ' a' w' → K a' w') :
    if Region.wanted o (yielded ops a.tmps) then o.wp g.P a w K Q ∨ (o.asks g.P a w ∧ LetsOut Q) else K (a.put o.dst undef) w := by
  subst hnt
  cases h with
  | skip d want hg hb hd e =>
    subst e
    rw [wanted_of_skip hI hg hb]
    simp only [Bool.false_eq_true, if_false]
    cases hdd : o.dst with
    | none => simp only [hdd, putD] at hn; exact hn _ _ _ _ (hI.next0 hI.same)
    | some d' => simp only [hdd, putD] at hn; exact hn _ _ _ _ (hI.next hI.same (hd d' hdd) RV_undef)
  | act hg hd h =>
    have hw : Region.wanted o (yielded ops a.tmps) = true := by
      rcases hg with hg | ⟨d, want, hg, hb⟩
      · exact wanted_of_none hg _
      · rw [wanted_of_some hI hg hb]; simp
    rw [hw]
    simp only [if_true]
    left
    cases h with
    | op x m' c h hc e =>
      subst e
      obtain ⟨u, w', F', lam', hr, hnx, hv⟩ := act_sound hI h hc
      unfold Oper.wp
      cases hdd : o.dst with
      | none =>
        simp only [hdd, putD] at hn
        have := hn _ _ _ _ (hI.next0 hnx)
        rcases hr with hr | ⟨hr, rfl⟩ <;> rw [hr] <;> simp only [Oper.upon, hdd] <;> exact this
      | some d' =>
        simp only [hdd, putD] at hn
        have := hn _ _ _ _ (hI.next hnx (hd d' hdd) hv)
        rcases hr with hr | ⟨hr, rfl⟩ <;> rw [hr] <;> simp only [Oper.upon, hdd] <;> exact this
    | call cl f ho hf h hq => exact call_sound hI ho hf hd h hn

inductive Run (P : Program) (nx nt : Nat) (quiet : Bool) (ops : Array Oper) : List Nat → St → St → Prop
  | nil (σ : St) : Run P nx nt quiet ops [] σ σ
  | cons {i : Nat} {L : List Nat} {o : Oper} {σ σ1 σ2 : St} (ho : ops[i]? = some o) (h : Stp P nx nt quiet ops o σ σ1) (hr : Run P nx nt quiet ops L σ1 σ2) : Run P nx nt quiet ops (i :: L) σ σ2

theorem run_sound {L : List Nat} (hr : Run g.P g.nx g.nt quiet ops L σ σ') (hI : Inv g F lam σ a w) {Q : Exit → Act → World → Prop} (hn : ∀ F' lam' a' w', Inv g F' lam' σ' a' w' → Q .normal a' w') : wpOps g.P ops Q L a w := by
  induction hr generalizing F lam a w with
  | nil σ => exact hn _ _ _ _ hI
  | cons ho h hr ih =>
    rw [wpOps_cons]
    unfold wpOp
    rw [ho]
    exact stp_sound hI rfl h fun F' lam' a' w' hI' => ih hI' hn

end

/-- Some frame of some world is as told. -/
def Alive (P : Program) (nx nt : Nat) (σ : St) : Prop := ∃ g F lam a w, g.P = P ∧ g.nx = nx ∧ g.nt = nt ∧ Inv g F lam σ a w

theorem Alive.stp {P : Program} {nx nt : Nat} {quiet : Bool} {ops : Array Oper} {o : Oper} {σ σ' : St} (h : Alive P nx nt σ) (hs : Stp P nx nt quiet ops o σ σ') : Alive P nx nt σ' := by
  obtain ⟨g, F, lam, a, w, rfl, rfl, rfl, hI⟩ := h
  have := stp_sound (K := fun a' w' => ∃ F' lam', Inv g F' lam' σ' a' w') (Q := fun _ _ _ => False) hI rfl hs (fun F' lam' a' w' h => ⟨F', lam', h⟩)
  split at this
  · rcases this with h | ⟨_, _, _, h⟩
    · unfold Oper.wp at h
      cases hr : (execOp a.eval o).run g.P w with
      | halt x w' => rw [hr] at h; cases x <;> simp only [Oper.upon] at h
      | ok n w' =>
        rw [hr] at h
        cases n <;> simp only [Oper.upon] at h
        · obtain ⟨F', lam', h⟩ := h; exact ⟨g, F', lam', _, _, rfl, rfl, rfl, h⟩
        · obtain ⟨F', lam', h⟩ := h; exact ⟨g, F', lam', _, _, rfl, rfl, rfl, h⟩
        all_goals first
          | (obtain ⟨F', lam', h⟩ := h; exact ⟨g, F', lam', _, _, rfl, rfl, rfl, h⟩)
          | (obtain ⟨e, w'', fr, hR, _⟩ := h []; cases e with
              | returned v => obtain ⟨F', lam', h⟩ := hR; exact ⟨g, F', lam', _, _, rfl, rfl, rfl, h⟩
              | panicked ch => exact hR.elim
              | outgrown => obtain ⟨_, _, h⟩ := hR; exact h.elim)
          | (obtain ⟨v, w'', hR, _⟩ := h default []; obtain ⟨F', lam', h⟩ := hR; exact ⟨g, F', lam', _, _, rfl, rfl, rfl, h⟩)
          | exact h.elim
    · exact h.elim
  · obtain ⟨F', lam', h⟩ := this
    exact ⟨g, F', lam', _, _, rfl, rfl, rfl, h⟩

end Go.Abs
