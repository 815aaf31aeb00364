/- A function's contract out of its body. -/
import Derived.Test.YtcaokibfjjoimaaACode
namespace Go.Abs
open Go.RowKit
set_option linter.unusedVariables false
set_option linter.unusedSimpArgs false

def slotsOf : Nat → List AV → List (Nat × AV)
  | _, [] => []
  | n, x :: xs => (n, x) :: slotsOf (n + 1) xs

/-- The frame at a function's begin. -/
def startS (args : List AV) (ext : List Ent) : St := ⟨ofT (slotsOf 0 args), ofM ext.length 1000 ext []⟩

/-- What the results' places hold at the end. -/
def resAt (P : Program) (σ : St) : List ResultVar → List AV → Prop
  | [], [] => True
  | .tmp t :: rs, x :: xs => σ.t t = x ∧ resAt P σ rs xs
  | .cell a t :: rs, x :: xs => (∃ k ver off c, σ.t a = .at (.bx k ver off) ∧ loadS P t σ.m (σ.t a) = some (x, c) ∧ c) ∧ resAt P σ rs xs
  | _, _ => False

def oneOf : List AV → AV
  | [x] => x
  | xs => .tp xs

def subR : AV → AV → Prop
  | .tp xs, .tp ys => subT xs ys
  | x, y => subV x y

/-- The frame at a function's end gives what is told. -/
def finS (P : Program) (nx : Nat) (fn : Func) (res : AV) (ext' : List Ent) : Post
  | .normal, σ | .ret, σ => ∃ σ1 xs ks, Weak nx σ σ1 ∧ resAt P σ1 fn.results.toList xs ∧ nx ≤ 1000 ∧ ks.Nodup ∧ (∀ k ∈ ks, nx ≤ k) ∧ subR (renV (invOf nx 1000 ks) σ1.m (oneOf xs)) (instV 1000 res) ∧
      ((List.range nx).map fun k => renE (invOf nx 1000 ks) σ1.m (σ1.m k)) = ext' ∧ (ks.map fun k => renE (invOf nx 1000 ks) σ1.m (σ1.m k)) = freshes res
  | _, _ => False

section
variable {P : Program} {g : G} {F : Nat → Prop} {lam : Lam} {σ : St} {a : Act} {w : World}

theorem RV1.of_RV {m : Mem} {x : AV} {u : Value} (h : RV w F m lam x u) (hx : ∀ xs, x ≠ .tp xs) : RV1 w F m lam x u := by
  cases x with
  | «at» a => exact h
  | ag cs => exact h
  | tp xs => exact absurd rfl (hx xs)

theorem slots_get (args : List AV) (us : List Value) (n0 : Nat) (m : Mem) (hl : args.length = us.length) (h : ∀ (i : Nat) (x : AV) (u : Value), args[i]? = some x → us[i]? = some u → RV1 w F m lam x u) (vs : Nat → Value) (hv : ∀ i u, us[i]? = some u → vs (n0 + i) = u) (t : Nat) :
    RV w F m lam (ofT (slotsOf n0 args) t) (vs t) := by
  induction args generalizing us n0 with
  | nil => trivial
  | cons x args ih =>
    cases us with
    | nil => simp at hl
    | cons u us =>
      simp only [slotsOf, ofT]
      split
      · rename_i ht
        subst ht
        have h0 := h 0 x u rfl rfl
        have hu := hv 0 u rfl
        simp only [Nat.add_zero] at hu
        rw [hu]
        cases x with
        | «at» a => exact h0
        | ag cs => exact h0
        | tp xs => exact h0.elim
      · exact ih us (n0 + 1) (by simpa using hl) (fun i x' u' h1 h2 => h (i + 1) x' u' (by simpa using h1) (by simpa using h2)) (fun i u' hu => by
          have := hv (i + 1) u' (by simpa using hu)
          rw [show n0 + 1 + i = n0 + (i + 1) by omega]; exact this)

theorem MemRel.ofNt {P : Program} {w0 w : World} {F0 F : Nat → Prop} {lam0 lam : Lam} {nx n n' : Nat} {m : Mem} (h : MemRel (gOf P w0 F0 lam0 nx n) w F m lam) : MemRel (gOf P w0 F0 lam0 nx n') w F m lam := ⟨h.ent, h.inj⟩
theorem Chg.ofNt {P : Program} {w0 w : World} {F0 : Nat → Prop} {lam0 : Lam} {nx n n' : Nat} (h : Chg (gOf P w0 F0 lam0 nx n) w) : Chg (gOf P w0 F0 lam0 nx n') w := ⟨h.os, h.tape, h.output, h.size, h.block, h.bs⟩

theorem subR_RV {m : Mem} {x y : AV} {u : Value} (h : subR x y) (hR : RV w F m lam x u) : RV w F m lam y u := by
  cases x with
  | tp xs => cases y with
    | tp ys =>
      obtain ⟨us, h1, h2, h3⟩ := hR
      obtain ⟨h4, h5⟩ := subT_get h
      refine ⟨us, h1, by omega, fun i y0 u0 hy hu => ?_⟩
      have hi : i < xs.length := by rw [h4]; exact (List.getElem?_eq_some_iff.1 hy).1
      exact (h3 i xs[i] u0 (List.getElem?_eq_getElem hi) hu).sub (h5 i _ _ (List.getElem?_eq_getElem hi) hy)
    | _ => exact h.elim
  | «at» a0 => cases y with
    | «at» b => exact RV1.sub (x := .at a0) (y := .at b) h hR
    | _ => exact h.elim
  | ag as => cases y with
    | ag bs => exact RV1.sub (x := .ag as) (y := .ag bs) h hR
    | _ => exact h.elim

def valueOf : List Value → Value
  | [v] => v
  | vs => .tuple vs.toArray

theorem run_cell {t : TypeId} {b o : Nat} : (do loadVar t (← asAddr (.pointer (some ⟨b, o, none⟩))) : Sem Value).run P w = (Instr.loadAt t (.pointer (some ⟨b, o, none⟩))).run P w := by
  simp [asAddr, Instr.loadAt, Instr.sureAddr]

theorem results_each (hI : Inv g F lam σ a w) {f : ResultVar → Sem Value} (hf : ∀ t, f (.tmp t) = pure (a.tmps.getD t undef)) (hc : ∀ s t, f (.cell s t) = (do loadVar t (← asAddr (a.tmps.getD s undef)))) :
    ∀ (rs : List ResultVar) (xs : List AV), resAt g.P σ rs xs → ∃ vs : List Value, (rs.mapM f).run g.P w = .ok vs w ∧ vs.length = xs.length ∧ ∀ (i : Nat) (x : AV) (v : Value), xs[i]? = some x → vs[i]? = some v → RV w F σ.m lam x v := by
  intro rs
  induction rs with
  | nil =>
    intro xs h
    cases xs with
    | nil => exact ⟨[], by simp [pure, Sem.run], rfl, by simp⟩
    | cons x xs => exact h.elim
  | cons r rs ih =>
    intro xs h
    cases xs with
    | nil => cases r <;> exact h.elim
    | cons x xs =>
      have step : ∀ u, (f r).run g.P w = .ok u w → RV w F σ.m lam x u → resAt g.P σ rs xs → ∃ vs : List Value, ((r :: rs).mapM f).run g.P w = .ok vs w ∧ vs.length = (x :: xs).length ∧ ∀ (i : Nat) (y : AV) (v : Value), (x :: xs)[i]? = some y → vs[i]? = some v → RV w F σ.m lam y v := by
        intro u hu hR hrest
        obtain ⟨vs, h1, h2, h3⟩ := ih xs hrest
        refine ⟨u :: vs, by simp [List.mapM_cons, Sem.run_bind, hu, h1], by simp [h2], fun i y v hy hv => ?_⟩
        cases i with
        | zero => simp at hy hv; subst hy; subst hv; exact hR
        | succ i => exact h3 i y v (by simpa using hy) (by simpa using hv)
      cases r with
      | tmp t =>
        obtain ⟨rfl, hrest⟩ := h
        exact step _ (by rw [hf]; simp) (hI.sl t) hrest
      | cell s t =>
        obtain ⟨⟨k, ver, off, c, hs, hl, hcc⟩, hrest⟩ := h
        have hp := hI.sl s
        obtain ⟨v, hv, hR⟩ := run_loadS hI hl hcc hp
        rw [hs] at hp
        obtain ⟨_, ⟨b, o, hu⟩, _⟩ := hp
        refine step v ?_ hR hrest
        rw [hc, hu, run_cell, ← hu]
        exact hv

theorem results_run (hI : Inv g F lam σ a w) {fn : Func} {xs : List AV} (h : resAt g.P σ fn.results.toList xs) : ∃ vs : List Value, (results fn a.tmps).run g.P w = .ok (valueOf vs) w ∧ vs.length = xs.length ∧ ∀ (i : Nat) (x : AV) (v : Value), xs[i]? = some x → vs[i]? = some v → RV w F σ.m lam x v := by
  have gen : ∀ f : ResultVar → Sem Value, (∀ t, f (.tmp t) = pure (a.tmps.getD t undef)) → (∀ s t, f (.cell s t) = (do loadVar t (← asAddr (a.tmps.getD s undef)))) →
      ∃ vs : List Value, ((do let vs ← List.toArray <$> fn.results.toList.mapM f; pure (if h : vs.size = 1 then vs[0] else .tuple vs)) : Sem Value).run g.P w = .ok (valueOf vs) w ∧ vs.length = xs.length ∧ ∀ (i : Nat) (x : AV) (v : Value), xs[i]? = some x → vs[i]? = some v → RV w F σ.m lam x v := by
    intro f hf hc
    obtain ⟨vs, h1, h2, h3⟩ := results_each hI hf hc _ _ h
    refine ⟨vs, ?_, h2, h3⟩
    rw [Sem.run_bind, Sem.run_map, h1]
    rcases vs with _ | ⟨v, _ | ⟨v', vs'⟩⟩
    · rfl
    · rfl
    · simp [valueOf]
  unfold results
  rw [Array.mapM_eq_mapM_toList]
  exact gen _ (fun t => rfl) (fun s t => rfl)

theorem RV_oneOf {m : Mem} {xs : List AV} {vs : List Value} (hl : vs.length = xs.length) (h : ∀ (i : Nat) (x : AV) (v : Value), xs[i]? = some x → vs[i]? = some v → RV w F m lam x v) (hn : 2 ≤ xs.length ∨ xs = [] → ∀ x ∈ xs, ∀ zs, x ≠ .tp zs) : RV w F m lam (oneOf xs) (valueOf vs) := by
  have gen : (∀ x ∈ xs, ∀ zs, x ≠ .tp zs) → RV w F m lam (.tp xs) (.tuple vs.toArray) := fun hn =>
    ⟨vs, rfl, hl.symm, fun i x y hx hy => RV1.of_RV (h i x y hx hy) (hn x (List.mem_of_getElem? hx))⟩
  rcases xs with _ | ⟨x, _ | ⟨x', xs'⟩⟩
  · rcases vs with _ | ⟨v, vs⟩
    · exact gen (by simp)
    · simp at hl
  · rcases vs with _ | ⟨v, _ | ⟨v', vs'⟩⟩
    · simp at hl
    · exact h 0 x v rfl rfl
    · simp at hl
  · rcases vs with _ | ⟨v, _ | ⟨v', vs'⟩⟩
    · simp at hl
    · simp at hl
    · exact gen (hn (.inl (by simp)))

theorem subT_noTp {xs ys : List AV} (h : subT xs ys) (i : Nat) (x : AV) (hx : xs[i]? = some x) : ∀ zs, x ≠ .tp zs := by
  obtain ⟨h1, h2⟩ := subT_get h
  have hi : i < ys.length := by rw [← h1]; exact (List.getElem?_eq_some_iff.1 hx).1
  have := h2 i x _ hx (List.getElem?_eq_getElem hi)
  rintro zs rfl
  exact this

theorem SC.of_T {f : FuncId} {fn : Func} {c : Code} {args : List AV} {ext : List Ent} {res : AV} {ext' : List Ent} (hf : P.funcs[f]? = some fn) (hn : (fn.name == "runtime.NumGoroutine") = false) (hb : fn.body = some c)
    (hsz : args.length ≤ fn.ntmps) (h : T P ext.length fn.ntmps c (finS P ext.length fn res ext') (startS args ext)) : SC P f args ext res ext' := by
  refine ⟨⟨fn, hf, hn, by simp [hb]⟩, fun w F lam us hF hM hl hv => ?_⟩
  refine calls_of_wp hf hb ?_
  have hus : us.toArray.size = us.length := by simp
  have htm : ∀ t, (us.toArray ++ Array.replicate (fn.ntmps - us.toArray.size) undef).getD t undef = us.getD t undef := by
    intro t
    simp only [Array.getD_eq_getD_getElem?, Array.getElem?_append, List.getD_eq_getElem?_getD]
    by_cases ht : t < us.length
    · simp [ht]
    · simp only [hus, ht, if_false, Array.getElem?_replicate]
      rw [List.getElem?_eq_none (by omega)]
      split <;> rfl
  have hI : Inv (gOf P w F lam ext.length fn.ntmps) F lam (startS args ext) { tmps := us.toArray ++ Array.replicate (fn.ntmps - us.toArray.size) undef, defers := [] } w := {
    f1 := fun b h => h, f2 := fun b _ h => h, f3 := hF
    mem := hM.ofNt
    l0 := fun k _ => rfl
    sl := fun t => by
      show RV w F _ lam (ofT (slotsOf 0 args) t) (Array.getD _ t undef)
      refine slots_get args us 0 _ hl hv (fun t => (us.toArray ++ Array.replicate (fn.ntmps - us.toArray.size) undef).getD t undef) (fun i u hu => ?_) t
      simp only [Nat.zero_add, htm, List.getD_eq_getElem?_getD, hu, Option.getD_some]
    nt := by simp [gOf]; omega
    chg := ⟨rfl, rfl, rfl, Nat.le_refl _, fun _ _ _ => rfl, fun _ => Nat.le_refl _⟩
    df := rfl }
  have key : ∀ a' w', (∃ σ' F' lam', finS P ext.length fn res ext' .ret σ' ∧ Inv (gOf P w F lam ext.length fn.ntmps) F' lam' σ' a' w') → a'.defers = [] ∧ ∃ v, (results fn a'.tmps).run P w' = .ok v w' ∧
      ∃ v0 F' lam', Ending.returned v = .returned v0 ∧ (∀ b, F b → F' b) ∧ (∀ b, b < w.heap.size → F' b → F b) ∧ (∀ b, F' b → b < w'.heap.size) ∧
      Chg (gOf P w F lam ext.length 0) w' ∧ (∀ k, k < ext.length → lam' k = lam k) ∧
      MemRel (gOf P w F lam ext.length 0) w' F' (ofM ext.length 1000 ext' (freshes res)) lam' ∧ RV w' F' (ofM ext.length 1000 ext' (freshes res)) lam' (instV 1000 res) v0 := by
    rintro a' w' ⟨σ', F', lam', ⟨σ2, xs, ks, hw, hxs, hnx, hnd, hown, hr, he, hfr⟩, hI'⟩
    obtain ⟨F2, lam2, hI2⟩ := hw _ _ _ _ _ rfl hI'
    have ho := RenOk.of ext.length 1000 ks hnx hnd hown
    have hm : renM (rOf ext.length 1000 ks) (invOf ext.length 1000 ks) σ2.m = ofM ext.length 1000 ext' (freshes res) := by
      rw [← ofM_renM _ _ _ _ hnx, he, hfr]
    obtain ⟨vs, hrun, hvl, hvs⟩ := results_run hI2 hxs
    have hRV : RV w' F2 σ2.m lam2 (oneOf xs) (valueOf vs) := RV_oneOf hvl hvs fun hlen x hx zs hz => by
      subst hz
      obtain ⟨i, hi⟩ := List.getElem?_of_mem hx
      have hone : oneOf xs = .tp xs := by
        rcases xs with _ | ⟨x0, _ | ⟨x1, xs'⟩⟩
        · rfl
        · simp at hlen
        · rfl
      rw [hone] at hr
      simp only [renV] at hr
      cases hres : instV 1000 res with
      | tp ys =>
        rw [hres] at hr
        exact subT_noTp hr i (.tp zs) (by rw [List.getElem?_map, hi]; rfl) zs rfl
      | _ => rw [hres] at hr; exact hr.elim
    have hRV2 := subR_RV hr (hRV.ren ho hI2.mem.ent)
    have hMem := hI2.mem.ren ho
    rw [hm] at hRV2 hMem
    exact ⟨hI2.df, _, hrun, _, F2, _, rfl, hI2.f1, hI2.f2, hI2.f3, hI2.chg.ofNt, fun k hk => by simp only [renL, ho.ext k hk]; exact hI2.l0 k hk, hMem.ofNt, hRV2⟩
  refine wp_mono (h _ F lam _ w rfl rfl rfl hI) fun e a' w' hq => ?_
  cases e with
  | normal => exact key a' w' hq
  | ret => exact key a' w' hq
  | _ => obtain ⟨_, _, _, hq, _⟩ := hq; exact hq.elim

end
end Go.Abs
