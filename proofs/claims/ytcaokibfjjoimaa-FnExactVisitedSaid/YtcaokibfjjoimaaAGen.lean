/- Calls of functions that are known otherwise than by a contract of this library's own kind. -/
import Derived.Test.YtcaokibfjjoimaaAWords
import Derived.Test.YtcaokibfjjoimaaAMask
namespace Go.Abs
open Go.RowKit
set_option linter.unusedVariables false
set_option linter.unusedSimpArgs false

/-- A call that leaves 'x' and turns memory from 'm' to 'm''. -/
def GenStp (P : Program) (nx : Nat) (m : Mem) (f : FuncId) (avs : List AV) (m' : Mem) (x : AV) : Prop :=
  Callable P f ∧ ∀ (g : G) (F : Nat → Prop) (lam : Lam) (σ : St) (a : Act) (w : World) (us : List Value), g.P = P → g.nx = nx → σ.m = m → Inv g F lam σ a w → us.length = avs.length →
    (∀ (i : Nat) (y : AV) (u : Value), avs[i]? = some y → us[i]? = some u → RV w F m lam y u) →
    Calls P f us.toArray w fun e w' => ∃ v F' lam', e = .returned v ∧ Nx g F lam m w F' lam' m' w' ∧ RV w' F' m' lam' x v

section
variable {g : G} {F : Nat → Prop} {lam : Lam} {σ : St} {a : Act} {w : World}
theorem gen_sound (hI : Inv g F lam σ a w) {o : Oper} {c : Call} {f : FuncId} {m' : Mem} {x : AV} (ho : o.op = .call c) (hc : c.callee = .value (.func f)) (hd : ∀ d, o.dst = some d → d < g.nt)
    (h : GenStp g.P g.nx σ.m f (c.args.toList.map σ.ev) m' x) {next : Act → World → Prop} {Q : Exit → Act → World → Prop} (hn : ∀ F' lam' a' w', Inv g F' lam' ⟨putD σ.t o.dst x, m'⟩ a' w' → next a' w') : o.wp g.P a w next Q := by
  obtain ⟨hcall, hsc⟩ := h
  unfold Oper.wp
  rw [run_callf ho hc hcall]
  simp only [Oper.upon]
  have hcs := hsc g F lam σ a w (c.args.toList.map a.eval) rfl rfl rfl hI (by simp) (fun i y u hy hu => by
    have hi : i < c.args.toList.length := by
      have := (List.getElem?_eq_some_iff.1 hu).1; simpa using this
    rw [List.getElem?_map, List.getElem?_eq_getElem hi] at hy hu
    simp only [Option.map_some, Option.some.injEq] at hy hu
    subst hy; subst hu
    exact hI.ev _)
  rw [show (c.args.map a.eval) = (c.args.toList.map a.eval).toArray from Array.ext' (by rw [Array.toList_map])]
  refine hcs.mono ?_
  rintro e w' ⟨v, F', lam', rfl, hnx, hrv⟩
  cases hdd : o.dst with
  | none =>
    simp only [hdd, putD] at hn
    exact hn _ _ _ _ (hI.next0 hnx)
  | some d =>
    simp only [hdd, putD] at hn
    exact hn _ _ _ _ (hI.next hnx (hd d hdd) hrv)
end

/-- A call in a region that has its order. -/
def callU (P : Program) (nx : Nat) (f : FuncId) (avs : List AV) (d : Option Nat) (K : St → Prop) (σ : St) : Prop :=
  callC P nx f avs d K σ ∨ ∃ m' x, GenStp P nx σ.m f avs m' x ∧ K ⟨putD σ.t d x, m'⟩
def actU (P : Program) (nx : Nat) (o : Oper) (K : St → Prop) (σ : St) : Prop :=
  match o.op with
  | .call c =>
    match c.callee with
    | .value (.func f) => callU P nx f (c.args.toList.map σ.ev) o.dst K σ
    | _ => actW P nx false o K σ
  | _ => actW P nx false o K σ

section
variable {P : Program} {nx : Nat} {σ : St}
theorem actU_C {o : Oper} {K : St → Prop} (h : actU P nx o K σ) : actC P nx false o K σ ∨ ∃ c f m' x, o.op = .call c ∧ c.callee = .value (.func f) ∧ GenStp P nx σ.m f (c.args.toList.map σ.ev) m' x ∧ K ⟨putD σ.t o.dst x, m'⟩ := by
  obtain ⟨d, op, ty, pos, af, g⟩ := o
  cases op with
  | call c =>
    simp only [actU] at h
    obtain ⟨callee, args, ats⟩ := c
    cases callee with
    | value v =>
      cases v with
      | func f =>
        rcases h with h | ⟨m', x, h1, h2⟩
        · left; simp only [actC, Bool.false_eq_true, if_false]; exact h
        · right; exact ⟨_, f, m', x, rfl, rfl, h1, h2⟩
      | _ => exact .inl (actW_C h)
    | _ => exact .inl (actW_C h)
  | _ => exact .inl (actW_C h)
end
end Go.Abs
