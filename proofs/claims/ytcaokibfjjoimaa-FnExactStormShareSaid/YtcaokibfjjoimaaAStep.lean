/- One operation of a region as a step from frame to frame. -/
import Derived.Test.YtcaokibfjjoimaaARet
namespace Go.Abs
open Go.RowKit
set_option linter.unusedVariables false
set_option linter.unusedSimpArgs false

def putD (t : Nat → AV) : Option Nat → AV → Nat → AV
  | some d, x => upd t d x
  | none, _ => t

/-- A call of a known function. -/
structure CallStp (P : Program) (nx : Nat) (σ : St) (f : FuncId) (avs : List AV) (d : Option Nat) (σ' : St) : Prop where
  ex : ∃ keys bor fz args res ext', CallOk nx σ.m keys bor fz (siteOf d) ∧ BackOk σ.m keys bor fz ext' (freshes res) res ∧ subT (avs.map (passV keys bor σ.m)) args ∧
    SC P f args (exts keys σ.m) res ext' ∧ σ' = ⟨putD σ.t d (backV σ.m keys (siteOf d) (instV 1000 res)), backM σ.m keys bor fz (siteOf d) ext' (freshes res)⟩

theorem instA_noIm {n : Nat} {a : A} (h : a.noIm = true) : (instA n a).1.noIm = true := by cases a <;> simp_all [instA, A.noIm]
theorem instL_noIm {n : Nat} {as : List A} (h : as.all A.noIm = true) : (instL n as).1.all A.noIm = true := by
  induction as generalizing n with
  | nil => rfl
  | cons a as ih =>
    simp only [List.all_cons, Bool.and_eq_true] at h
    simp only [instL, List.all_cons, Bool.and_eq_true]
    exact ⟨instA_noIm h.1, ih h.2⟩
theorem inst1_noIm {n : Nat} {x : AV} (h : x.noIm1 = true) : (inst1 n x).1.noIm1 = true := by
  cases x with
  | «at» a => exact instA_noIm h
  | ag cs => exact instL_noIm h
  | tp xs => cases h
theorem instT_noIm {n : Nat} {xs : List AV} (h : xs.all AV.noIm1 = true) : (instT n xs).1.all AV.noIm1 = true := by
  induction xs generalizing n with
  | nil => rfl
  | cons x xs ih =>
    simp only [List.all_cons, Bool.and_eq_true] at h
    simp only [instT, List.all_cons, Bool.and_eq_true]
    exact ⟨inst1_noIm h.1, ih h.2⟩
theorem instV_noIm {n : Nat} {x : AV} (h : x.noIm = true) : (instV n x).noIm = true := by
  cases x with
  | «at» a => exact inst1_noIm (x := .at a) h
  | ag cs => exact inst1_noIm (x := .ag cs) h
  | tp xs => exact instT_noIm h

section
variable {g : G} {F F' : Nat → Prop} {lam lam' : Lam} {σ : St} {a : Act} {w w' : World} {keys bor : List Nat} {fz : Bool} {B : Nat} {ext' fs : List Ent} {res : AV}

theorem RV1_back (ho : CallOk g.nx σ.m keys bor fz B) (hb : BackOk σ.m keys bor fz ext' fs res) (hB : keys.length + 1 ≤ B) (p5 : ∀ k, k < keys.length → lam' k = lamC keys lam k) {x : AV} {u : Value}
    (hp : fz = true ∨ bor = [] ∨ x.noIm1 = true) (h : RV1 w' F' (ofM keys.length 1000 ext' fs) lam' x u) (hkb : ∀ j, j < 16 → B + j ∉ keys ∧ B + j ∉ bor) :
    RV1 w' (backF bor fz lam F') (backM σ.m keys bor fz B ext' fs) (backL lam lam' keys B fs.length) (backV1 σ.m keys B x) u := by
  cases x with
  | «at» A0 => exact RA_back ho hb hB p5 hp h hkb
  | ag cs =>
    obtain ⟨us, h1, h2⟩ := h
    refine ⟨us, h1, by simpa using h2.1, fun i A0 v hA hv => ?_⟩
    rw [List.getElem?_map] at hA
    cases hc : cs[i]? with
    | none => simp [hc] at hA
    | some a0 =>
      simp only [hc, Option.map_some, Option.some.injEq] at hA; subst hA
      have := h2.2 i a0 v hc hv
      refine ⟨RA_back ho hb hB p5 ?_ this.1 hkb, this.2⟩
      rcases hp with hp | hp | hp
      · exact .inl hp
      · exact .inr (.inl hp)
      · simp only [AV.noIm1, List.all_eq_true] at hp
        exact .inr (.inr (hp _ (List.mem_of_getElem? hc)))
  | tp xs => trivial

theorem RV_back (ho : CallOk g.nx σ.m keys bor fz B) (hb : BackOk σ.m keys bor fz ext' fs res) (hB : keys.length + 1 ≤ B) (p5 : ∀ k, k < keys.length → lam' k = lamC keys lam k) {x : AV} {u : Value}
    (hp : fz = true ∨ bor = [] ∨ x.noIm = true) (h : RV w' F' (ofM keys.length 1000 ext' fs) lam' x u) (hkb : ∀ j, j < 16 → B + j ∉ keys ∧ B + j ∉ bor) :
    RV w' (backF bor fz lam F') (backM σ.m keys bor fz B ext' fs) (backL lam lam' keys B fs.length) (backV σ.m keys B x) u := by
  cases x with
  | «at» A0 => exact RV1_back (x := .at A0) ho hb hB p5 hp h hkb
  | ag cs => exact RV1_back (x := .ag cs) ho hb hB p5 hp h hkb
  | tp xs =>
    obtain ⟨us, h1, h2, h3⟩ := h
    refine ⟨us, h1, by simpa using h2, fun i x y hx hy => ?_⟩
    rw [List.getElem?_map] at hx
    cases hc : xs[i]? with
    | none => simp [hc] at hx
    | some x0 =>
      simp only [hc, Option.map_some, Option.some.injEq] at hx; subst hx
      refine RV1_back ho hb hB p5 ?_ (h3 i x0 y hc hy) hkb
      rcases hp with hp | hp | hp
      · exact .inl hp
      · exact .inr (.inl hp)
      · simp only [AV.noIm, List.all_eq_true] at hp
        exact .inr (.inr (hp _ (List.mem_of_getElem? hc)))

theorem subT_get {xs ys : List AV} (h : subT xs ys) : xs.length = ys.length ∧ ∀ (i : Nat) (x y : AV), xs[i]? = some x → ys[i]? = some y → subV x y := by
  induction xs generalizing ys with
  | nil => cases ys with
    | nil => exact ⟨rfl, by simp⟩
    | cons y ys => exact h.elim
  | cons x xs ih => cases ys with
    | nil => exact h.elim
    | cons y ys =>
      obtain ⟨h1, h2⟩ := ih h.2
      refine ⟨by simp [h1], fun i a b ha hb => ?_⟩
      cases i with
      | zero => simp at ha hb; subst ha; subst hb; exact h.1
      | succ i => exact h2 i a b (by simpa using ha) (by simpa using hb)

theorem run_callf {P : Program} {f : FuncId} {o : Oper} {c : Call} (ho : o.op = .call c) (hc : c.callee = .value (.func f)) (h : Callable P f) :
    (execOp a.eval o).run P w = .ok (.enter f (c.args.map a.eval)) w := by
  obtain ⟨fn, h1, h2, h3⟩ := h
  have h2' : ¬ fn.name = "runtime.NumGoroutine" := by simpa using h2
  have h3' : ¬ fn.body = none := by intro e; rw [e] at h3; cases h3
  simp [execOp, ho, resolve, hc, Act.eval, Deferred.ofValue, invoke, callFunc, h1, h2', h3']

theorem call_sound (hI : Inv g F lam σ a w) {o : Oper} {c : Call} {f : FuncId} {σ' : St} (ho : o.op = .call c) (hc : c.callee = .value (.func f)) (hd : ∀ d, o.dst = some d → d < g.nt)
    (h : CallStp g.P g.nx σ f (c.args.toList.map σ.ev) o.dst σ') {next : Act → World → Prop} {Q : Exit → Act → World → Prop} (hn : ∀ F' lam' a' w', Inv g F' lam' σ' a' w' → next a' w') : o.wp g.P a w next Q := by
  obtain ⟨keys, bor, fz, args, res, ext', hok, hbk, hsub, ⟨hcall, hsc⟩, rfl⟩ := h.ex
  unfold Oper.wp
  rw [run_callf ho hc hcall]
  simp only [Oper.upon]
  have hlen : (exts keys σ.m).length = keys.length := by simp [exts]
  obtain ⟨hl, hs⟩ := subT_get hsub
  simp only [List.length_map] at hl
  have hkb : ∀ j, j < 16 → siteOf o.dst + j ∉ keys ∧ siteOf o.dst + j ∉ bor := by
    intro j hj
    have hg := hok.site j hj
    refine ⟨fun hk => ?_, fun hk => ?_⟩
    · have := hok.key _ hk
      rw [hg] at this; cases this
    · obtain ⟨⟨v, s, r, hm⟩, _⟩ := hok.bor _ hk
      rw [hg] at hm; cases hm
  have hcs := hsc w (FC bor lam F) (lamC keys lam) (c.args.toList.map a.eval) ?_ (call_mem hI hok) (by rw [List.length_map]; exact hl.symm) ?_
  · rw [show (c.args.map a.eval) = (c.args.toList.map a.eval).toArray from Array.ext' (by rw [Array.toList_map])]
    refine hcs.mono ?_
    rintro e w' ⟨v, F', lam', rfl, p1, p2, p3, p4, p5, p6, p7⟩
    rw [hlen] at p4 p5 p6 p7
    have hnx := call_back hI hok hbk (freshes_arr res) p1 p2 p3 p4 p5 p6
    have hrv := RV_back (u := v) hok hbk (by unfold siteOf; have := hok.few; omega) p5 (by
      rcases hbk.im with h | h | h
      · exact .inl h
      · exact .inr (.inl h)
      · exact .inr (.inr (instV_noIm h.1))) p7 hkb
    cases hdd : o.dst with
    | none =>
      simp only [hdd, putD] at hnx hn
      exact hn _ _ _ _ (hI.next0 hnx)
    | some d =>
      simp only [hdd, putD] at hnx hrv hn
      exact hn _ _ _ _ (hI.next hnx (hd d hdd) hrv)
  · rintro b (h | ⟨k, hk, o', hlk⟩)
    · exact hI.f3 b h
    · obtain ⟨⟨v, s, r, hm⟩, _⟩ := hok.bor k hk
      exact ((hI.mem.ent k).block' (by rw [hm]; trivial) hlk).2
  · intro i x u hx hu
    have hi : i < c.args.toList.length := by
      have := (List.getElem?_eq_some_iff.1 hu).1; simpa using this
    rw [List.getElem?_map, List.getElem?_eq_getElem hi] at hu
    simp only [Option.map_some, Option.some.injEq] at hu
    subst hu
    have hy : ((c.args.toList.map σ.ev).map (passV keys bor σ.m))[i]? = some (passV keys bor σ.m (σ.ev c.args.toList[i])) := by
      simp [List.getElem?_map, List.getElem?_eq_getElem hi]
    exact (RV_pass hI hok (hI.ev _)).sub (hs i _ x hy hx)

end
end Go.Abs
