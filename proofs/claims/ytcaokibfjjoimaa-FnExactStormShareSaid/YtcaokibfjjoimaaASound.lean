/- What one operation does to a frame read as data; and that the world does so. Part 2: frames and the operations that leave the world alone. -/
import Derived.Test.YtcaokibfjjoimaaAOps
import Derived.BigRegion
import Derived.Laws.Concat
import Derived.Laws.MakeOwn
namespace Go.Abs
open Go.RowKit
set_option linter.unusedVariables false
set_option linter.unusedSimpArgs false

theorem getD_put {a : Act} {d : Nat} {u : Value} (hd : d < a.tmps.size) (t : Nat) :
    (a.put (some d) u).tmps.getD t undef = if t = d then u else a.tmps.getD t undef := by
  simp only [Act.put, Array.getD_eq_getD_getElem?, Array.getElem?_setIfInBounds]
  by_cases h : d = t
  · subst h; simp [hd]
  · have h' : ¬ t = d := fun e => h e.symm
    simp [h, h']

structure Nx (g : G) (F : Nat → Prop) (lam : Lam) (m : Mem) (w : World) (F' : Nat → Prop) (lam' : Lam) (m' : Mem) (w' : World) : Prop where
  le : Le w w' F F' m m' lam lam'
  mem : MemRel g w' F' m' lam'
  f2 : ∀ b, b < g.w0.heap.size → F' b → g.F0 b
  f3 : ∀ b, F' b → b < w'.heap.size
  l0 : ∀ k, k < g.nx → lam' k = g.lam0 k
  chg : Chg g w'

section
variable {g : G} {F F' : Nat → Prop} {lam lam' : Lam} {σ : St} {a : Act} {w w' : World} {m' : Mem} {x : AV} {u : Value}

theorem Inv.next (hI : Inv g F lam σ a w) (h : Nx g F lam σ.m w F' lam' m' w') {d : Nat} (hd : d < g.nt) (hx : RV w' F' m' lam' x u) :
    Inv g F' lam' ⟨upd σ.t d x, m'⟩ (a.put (some d) u) w' where
  f1 b hb := (h.le.fro b (hI.f1 b hb)).1
  f2 := h.f2
  f3 := h.f3
  mem := h.mem
  l0 := h.l0
  sl t := by
    rw [getD_put (by rw [hI.nt]; exact hd)]
    by_cases ht : t = d
    · subst ht; simp only [upd_same, if_true]; exact hx
    · rw [if_neg ht]; show RV w' F' m' lam' (upd σ.t d x t) _; rw [upd_ne _ _ ht]; exact (hI.sl t).le h.le
  nt := by simp [Act.put, hI.nt]
  chg := h.chg
  df := hI.df

theorem Inv.next0 (hI : Inv g F lam σ a w) (h : Nx g F lam σ.m w F' lam' m' w') : Inv g F' lam' ⟨σ.t, m'⟩ a w' where
  f1 b hb := (h.le.fro b (hI.f1 b hb)).1
  f2 := h.f2
  f3 := h.f3
  mem := h.mem
  l0 := h.l0
  sl t := (hI.sl t).le h.le
  nt := hI.nt
  chg := h.chg
  df := hI.df

theorem Inv.same (hI : Inv g F lam σ a w) : Nx g F lam σ.m w F lam σ.m w := ⟨Le.refl _ _ _ _, hI.mem, hI.f2, hI.f3, hI.l0, hI.chg⟩

theorem RA_atomOf (w : World) (F : Nat → Prop) (m : Mem) (lam : Lam) (v : Value) : RA w F m lam (atomOf v) v := by
  unfold atomOf
  split <;> simp [RA, Value.oneCell']

theorem oneCell_of_atomOf {v : Value} (h : (atomOf v).solid = true) : v.oneCell' = true := by
  unfold atomOf at h
  split at h <;> simp_all [Value.oneCell', A.solid]

theorem RV_const (w : World) (F : Nat → Prop) (m : Mem) (lam : Lam) (v : Value) : RV w F m lam (constAV v) v := by
  unfold constAV
  split
  · rename_i cs
    split
    · rename_i hall
      refine ⟨cs.toList, by simp, by simp, fun i a u ha hu => ?_⟩
      simp only [List.getElem?_map, hu, Option.map_some, Option.some.injEq] at ha
      subst ha
      refine ⟨RA_atomOf _ _ _ _ _, oneCell_of_atomOf ?_⟩
      rw [List.all_eq_true] at hall
      exact hall _ (List.mem_map_of_mem (List.mem_of_getElem? hu))
    · trivial
  · trivial
  · exact RA_atomOf _ _ _ _ _

theorem Inv.ev (hI : Inv g F lam σ a w) (x : Operand) : RV w F σ.m lam (σ.ev x) (a.eval x) := by
  cases x with
  | tmp t => exact hI.sl t
  | const v => exact RV_const _ _ _ _ v
  | global n => trivial
  | func f => trivial

theorem RA.solid {m : Mem} {A0 : A} (h : RA w F m lam A0 u) (hs : A0.solid = true) : u.oneCell' = true := by
  cases A0 with
  | v x => obtain ⟨rfl, h⟩ := h; exact h
  | im sz rows => obtain ⟨_, a, cap, rfl, _⟩ := h; rfl
  | fr sz rows => exact h.elim
  | ow k ver sz n => obtain ⟨_, ⟨rfl, _⟩ | ⟨b, o, cap, rfl⟩, _⟩ := h <;> rfl
  | nil => cases h; rfl
  | bx k ver off => obtain ⟨_, ⟨b, o, rfl⟩, _⟩ := h; rfl
  | pa k ver sz i off => obtain ⟨_, ⟨b, o, rfl⟩, _⟩ := h; rfl
  | pi cs => obtain ⟨b, o, rfl, _⟩ := h; rfl
  | er => obtain ⟨t, x, rfl⟩ := h; rfl
  | dead => cases hs

/-- The operation's own run. -/
abbrev runO (P : Program) (a : Act) (o : Oper) (w : World) : Result Next := (execOp a.eval o).run P w

def Good (g : G) (F : Nat → Prop) (lam : Lam) (σ : St) (w : World) (r : Result Next) (x : AV) (m' : Mem) : Prop :=
  ∃ u w' F' lam', (r = .ok (.value u) w' ∨ (r = .ok .skip w' ∧ u = undef)) ∧ Nx g F lam σ.m w F' lam' m' w' ∧ RV w' F' m' lam' x u

theorem Good.pure (hI : Inv g F lam σ a w) {r : Result Next} (hr : r = .ok (.value u) w) (hx : RV w F σ.m lam x u) : Good g F lam σ w r x σ.m :=
  ⟨u, w, F, lam, .inl hr, hI.same, hx⟩

theorem run_v {P : Program} {s : Sem Value} {v : Value} {w w' : World} (h : s.run P w = .ok v w') : (do Pure.pure (Next.value (← s)) : Sem Next).run P w = .ok (.value v) w' := by
  rw [Sem.run_bind, h]; rfl

end

end Go.Abs
