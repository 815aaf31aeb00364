/- What one operation does: the dispatcher. -/
import Derived.Test.YtfkciaogihemiaaAApp
namespace Go.Abs
open Go.RowKit
set_option linter.unusedVariables false
set_option linter.unusedSimpArgs false

section
variable {g : G} {F : Nat → Prop} {lam : Lam} {σ : St} {a : Act} {w : World}

theorem fillS_ok (hI : Inv g F lam σ a w) {t : TypeId} {fs : Array Field} {parts : List (Nat × Operand)} {as as' : List A} {us : List Value} (h : fillS fs.toList g.P σ parts as = some as')
    (hR : RL (fun a x => RA w F σ.m lam a x ∧ x.oneCell' = true) as us) {places : Array (Nat × Nat)} (hp : ∀ (i : Nat) (fd : Field) (s : Nat), fs[i]? = some fd → szT g.P fd.type = some s → places[i]? = some (fd.offset, s)) :
    ∃ cs, Instr.fill (places[·]?) us.toArray (parts.map fun p => (p.1, a.eval p.2)) = some cs ∧ RL (fun a x => RA w F σ.m lam a x ∧ x.oneCell' = true) as' cs.toList := by
  induction parts generalizing as us with
  | nil =>
    simp only [fillS, Option.some.injEq] at h; subst h
    exact ⟨_, rfl, hR⟩
  | cons p parts ih =>
    obtain ⟨i, x⟩ := p
    simp only [fillS] at h
    split at h
    · rename_i fd bs hfd hbs
      split at h
      · rename_i hc
        have hb := atomsOf_RL hbs (hI.ev x)
        have hbl : (a.eval x).cells.size = bs.length := by have := hb.1; simp at this; omega
        have hul : us.length = as.length := hR.1.symm
        obtain ⟨cs, hf, hcs⟩ := ih h (hR.splice hb hc.2)
        refine ⟨cs, ?_, hcs⟩
        simp only [List.map_cons]
        rw [fill_cons (off := fd.offset) (size := bs.length) (hp i fd _ (by simpa using hfd) hc.1) hbl (by rw [List.size_toArray]; omega)]
        exact hf
      · cases h
    · cases h

theorem run_places {P : Program} {fs : Array Field} (h : ∀ (fd : Field), fd ∈ fs.toList → (szT P fd.type).isSome) :
    ∃ places : Array (Nat × Nat), ((fs.mapM fun f => do pure (f.offset, ← sizeOf f.type) : Sem (Array (Nat × Nat)))).run P w = .ok places w ∧ ∀ (i : Nat) (fd : Field) (s : Nat), fs[i]? = some fd → szT P fd.type = some s → places[i]? = some (fd.offset, s) := by
  have key : ∀ l : List Field, (∀ (fd : Field), fd ∈ l → (szT P fd.type).isSome) → ∃ ps : List (Nat × Nat), (l.mapM fun f => (do pure (f.offset, ← sizeOf f.type) : Sem (Nat × Nat))).run P w = .ok ps w ∧ ∀ (i : Nat) (fd : Field) (s : Nat), l[i]? = some fd → szT P fd.type = some s → ps[i]? = some (fd.offset, s) := by
    intro l
    induction l with
    | nil => intro _; exact ⟨[], by simp, by simp⟩
    | cons f l ih =>
      intro hl
      obtain ⟨ps, h1, h2⟩ := ih fun fd hfd => hl fd (by simp [hfd])
      obtain ⟨s, hs⟩ := Option.isSome_iff_exists.1 (hl f (by simp))
      refine ⟨(f.offset, s) :: ps, ?_, ?_⟩
      · simp only [List.mapM_cons, Sem.run_bind, run_szT hs, Result.andThen_ok, Sem.run_pure, h1]
      · intro i fd s' hi hs'
        cases i with
        | zero => simp at hi; subst hi; rw [hs] at hs'; simp at hs'; subst hs'; rfl
        | succ i => simpa using h2 i fd s' (by simpa using hi) hs'
  obtain ⟨ps, h1, h2⟩ := key fs.toList h
  refine ⟨ps.toArray, ?_, fun i fd s hi hs => by simpa using h2 i fd s (by simpa using hi) hs⟩
  rw [Array.mapM_eq_mapM_toList, Sem.run_map, h1]
  rfl

theorem good_build (hI : Inv g F lam σ a w) {t : TypeId} {fs : Array Field} {as cs : List A} {parts : Array (Nat × Operand)} (ht : g.P.underlying t = some (.struct fs)) (hz : zeroAtoms g.P t = some as)
    (hs : as.all A.solid = true) (hall : fs.toList.all (fun (fd : Field) => (szT g.P fd.type).isSome) = true) (h : fillS fs.toList g.P σ parts.toList as = some cs) :
    ∃ u, (Instr.build t (parts.map fun (i, x) => (i, a.eval x))).run g.P w = .ok u w ∧ RV w F σ.m lam (.ag cs) u := by
  obtain ⟨i, z, hi, hiz, rfl⟩ := info_zeroAtoms hz
  rw [List.all_eq_true] at hall
  obtain ⟨places, hpr, hpl⟩ := run_places (P := g.P) (w := w) (fs := fs) hall
  obtain ⟨c, hf, hR⟩ := fillS_ok (fs := fs) (t := t) hI h (RL_zero hs) hpl
  refine ⟨.agg c, ?_, c.toList, by simp, hR⟩
  have hf' : Instr.fill (places[·]?) z.cells (parts.map fun (i, x) => (i, a.eval x)).toList = some c := by
    rw [← hf]; simp
  simp only [Instr.build, zeroValue, typeInfo, Sem.run_bind, run_program, hi, hiz, Sem.run_pure, Result.andThen_ok, run_underlying ht, hpr]
  rw [hf']
  rfl

theorem good_builtin (hI : Inv g F lam σ a w) {κ : Nat} {b : Builtin} {args : Array Operand} {ts : Array TypeId} {ty : TypeId} {X : AV} {m' : Mem} {c : Prop}
    (h : builtinS g.P κ g.nx b args.toList ts.toList σ = some (X, m', c)) (hc : c) (cs : Array Bool) :
    ∃ u w' F' lam', (builtin b ts ty cs (args.map a.eval)).run g.P w = .ok (.value u) w' ∧ Nx g F lam σ.m w F' lam' m' w' ∧ RV w' F' m' lam' X u := by
  unfold builtinS at h
  split at h
  · rename_i x t ha ht
    have ha' : args = #[x] := by cases args; simp_all
    have ht' : ts = #[t] := by cases ts; simp_all
    subst ha'; subst ht'
    split at h
    · rename_i v hv
      simp only [Option.some.injEq, Prod.mk.injEq] at h
      obtain ⟨rfl, rfl, rfl⟩ := h
      have hr := run_lenS (ty := ty) hv (hI.ev x)
      exact ⟨v, w, F, lam, by simp only [builtin, Sem.run_bind, List.map_toArray, List.map_cons, List.map_nil, hr.1, Result.andThen_ok, Sem.run_pure], hI.same, rfl, hr.2⟩
    · cases h
  · rename_i x y ha
    have ha' : args = #[x, y] := by cases args; simp_all
    subst ha'
    split at h
    · rename_i v hv
      simp only [Option.some.injEq, Prod.mk.injEq] at h
      obtain ⟨rfl, rfl, rfl⟩ := h
      have hr := run_max2 (P := g.P) hv (hI.ev x) (hI.ev y) ts ty
      exact ⟨v, w, F, lam, by simp only [builtin, Sem.run_bind, List.map_toArray, List.map_cons, List.map_nil, hr.1, Result.andThen_ok, Sem.run_pure], hI.same, rfl, hr.2⟩
    · cases h
  · rename_i x y ha
    have ha' : args = #[x, y] := by cases args; simp_all
    subst ha'
    split at h
    · rename_i v hv
      simp only [Option.some.injEq, Prod.mk.injEq] at h
      obtain ⟨rfl, rfl, rfl⟩ := h
      have hr := run_min2 (P := g.P) hv (hI.ev x) (hI.ev y) ts ty
      exact ⟨v, w, F, lam, by simp only [builtin, Sem.run_bind, List.map_toArray, List.map_cons, List.map_nil, hr.1, Result.andThen_ok, Sem.run_pure], hI.same, rfl, hr.2⟩
    · cases h
  · rename_i x y t t2 ha ht
    have ha' : args = #[x, y] := by cases args; simp_all
    have ht' : ts = #[t, t2] := by cases ts; simp_all
    subst ha'; subst ht'
    unfold appendS at h
    split at h
    · rename_i e hu
      split at h
      · rename_i sz by_ hsz hby
        obtain ⟨i, hi, hsi⟩ := info_szT hsz
        have hbi : i.bytes = by_ := by simpa [hi] using hby
        have key : ∀ (news : List (List Value)) (d2 : TypeDesc), g.P.underlying t2 = some d2 → (∀ k, d2 ≠ .int k) → Src g.P w (sz + 1) (a.eval y) news →
            (match σ.ev x with
              | .at .nil =>
                match σ.m κ with
                | .gone => if (zeroVals g.P e).map List.length = some (sz + 1) then some (AV.at (.ow κ 0 (sz + 1) news.length), upd σ.m κ (.arr 0 (sz + 1) news), g.nx ≤ κ ∧ news.length * by_ ≤ 140737488355328 ∧ news.length ≤ 4611686018427387904) else none
                | _ => none
              | .at (.ow k ver sz' n) =>
                match σ.m k with
                | .arr ver' sz'' rows =>
                  if ver = ver' ∧ sz' = sz'' ∧ sz' = sz + 1 ∧ g.nx ≤ k ∧ (zeroVals g.P e).map List.length = some (sz + 1) then
                    some (AV.at (.ow k (ver + 1) (sz + 1) (rows.length + news.length)), upd σ.m k (.arr (ver + 1) (sz + 1) (rows ++ news)), (rows.length + news.length) * by_ ≤ 140737488355328 ∧ rows.length + news.length ≤ 4611686018427387904)
                  else none
                | _ => none
              | _ => none) = some (X, m', c) →
            ∃ u w' F' lam', (Builtin.append_ #[t, t2] ty #[a.eval x, a.eval y]).run g.P w = .ok u w' ∧ Nx g F lam σ.m w F' lam' m' w' ∧ RV w' F' m' lam' X u := by
          intro news d2 h2 hd2 hsrc h
          have hzz : (zeroVals g.P e).map List.length = some (sz + 1) := by
            split at h
            · split at h
              · split at h
                · assumption
                · cases h
              · cases h
            · split at h
              · split at h
                · rename_i hh; exact hh.2.2.2.2
                · cases h
              · cases h
            · cases h
          cases hzv : zeroVals g.P e with
          | none => rw [hzv] at hzz; cases hzz
          | some z =>
            obtain ⟨i', zv, hi', hiz, rfl⟩ := info_zeroVals hzv
            rw [hi] at hi'
            simp only [Option.some.injEq] at hi'
            subst hi'
            rw [hzv] at hzz
            have hzl : zv.cells.size = sz + 1 := by simpa using hzz
            refine good_append hI (κ := κ) (i := i) (ty := ty) (c := c) hu hi hiz h2 hd2 hsi hzl hsrc ?_ hc (hI.ev x)
            subst hbi
            simp only [hzv, hzz, if_true, and_true] at h
            exact h
        have fin : ∀ {u : Value} {w' : World}, (Builtin.append_ #[t, t2] ty #[a.eval x, a.eval y]).run g.P w = .ok u w' → (builtin .append #[t, t2] ty cs (#[x, y].map a.eval)).run g.P w = .ok (.value u) w' := by
          intro u w' hr
          simp only [builtin, Sem.run_bind, List.map_toArray, List.map_cons, List.map_nil, hr, Result.andThen_ok, Sem.run_pure]
        split at h
        · rename_i news hn
          have hsrc : ∃ d2, g.P.underlying t2 = some d2 ∧ (∀ k, d2 ≠ .int k) ∧ Src g.P w (sz + 1) (a.eval y) news := by
            have hy := hI.ev y
            split at hn
            · rename_i s hs
              rw [hs] at hy
              split at hn
              · rename_i hc2
                obtain ⟨rfl, h2⟩ := hc2
                simp only [Option.some.injEq] at hn; subst hn
                unfold isStr at h2
                split at h2
                · rename_i hu2
                  refine ⟨_, hu2, by simp, ?_⟩
                  rw [hy.1]; exact Src.string s
                · cases h2
              · cases hn
            · rename_i hs
              rw [hs] at hy
              split at hn
              · rename_i ht2
                subst ht2
                simp only [Option.some.injEq] at hn; subst hn
                have hy' : a.eval y = .slice none 0 0 := hy
                rw [hy']
                exact ⟨_, hu, by simp, Src.nil _ _ _⟩
              · cases hn
            · cases hsr : srcRows σ.m (σ.ev y) with
              | none => simp [hsr] at hn
              | some p =>
                simp only [hsr, Option.bind_some] at hn
                split at hn
                · rename_i hp
                  obtain ⟨hp1, rfl⟩ := hp
                  simp only [Option.some.injEq] at hn; subst hn
                  exact ⟨_, hu, by simp, Src.of_AV hI (by rw [hsr, ← hp1]) hy⟩
                · cases hn
          obtain ⟨d2, h2, hd2, hsrc⟩ := hsrc
          obtain ⟨u, w', F', lam', hr, h3, h4⟩ := key news d2 h2 hd2 hsrc h
          exact ⟨u, w', F', lam', fin hr, h3, h4⟩
        · cases h
      · cases h
    · cases h
  · cases h

theorem act_sound (hI : Inv g F lam σ a w) {quiet : Bool} {o : Oper} {X : AV} {m' : Mem} {c : Prop} (h : opS g.P g.nx quiet o σ = some (X, m', c)) (hc : c) :
    ∃ u w' F' lam', (((execOp a.eval o).run g.P w = .ok (.value u) w') ∨ ((execOp a.eval o).run g.P w = .ok .skip w' ∧ u = undef)) ∧ Nx g F lam σ.m w F' lam' m' w' ∧ RV w' F' m' lam' X u := by
  have pv : ∀ {s : Sem Value} {u : Value}, s.run g.P w = .ok u w → (do Pure.pure (Next.value (← s)) : Sem Next).run g.P w = .ok (.value u) w := fun h => run_v h
  unfold opS at h
  split at h
  · rename_i x ho
    simp only [Option.some.injEq, Prod.mk.injEq] at h; obtain ⟨rfl, rfl, rfl⟩ := h
    exact ⟨_, w, F, lam, .inl (BigFrame.run_move x ho w), hI.same, hI.ev x⟩
  · rename_i x ho
    simp only [Option.some.injEq, Prod.mk.injEq] at h; obtain ⟨rfl, rfl, rfl⟩ := h
    exact ⟨_, w, F, lam, .inl (BigFrame.run_assign x ho w), hI.same, hI.ev x⟩
  · rename_i x y z ho
    have hx := hI.ev x
    split at h
    · rename_i hb
      simp only [Option.some.injEq, Prod.mk.injEq] at h; obtain ⟨rfl, rfl, rfl⟩ := h
      rw [hb] at hx
      exact ⟨_, w, F, lam, .inl (by simp [execOp, ho, hx.1, asBool]), hI.same, hI.ev y⟩
    · rename_i hb
      simp only [Option.some.injEq, Prod.mk.injEq] at h; obtain ⟨rfl, rfl, rfl⟩ := h
      rw [hb] at hx
      exact ⟨_, w, F, lam, .inl (by simp [execOp, ho, hx.1, asBool]), hI.same, hI.ev z⟩
    · cases h
  · rename_i op t x y yt ho
    split at h
    · rename_i v c' hb
      simp only [Option.some.injEq, Prod.mk.injEq] at h; obtain ⟨rfl, rfl, rfl⟩ := h
      have hr := run_binS (P := g.P) hb hc (hI.ev x) (hI.ev y) x y
      exact ⟨v, w, F, lam, .inl (by simp only [execOp, ho]; exact pv hr.1), hI.same, rfl, hr.2⟩
    · cases h
  · rename_i op t x ho
    split at h
    · rename_i v hb
      simp only [Option.some.injEq, Prod.mk.injEq] at h; obtain ⟨rfl, rfl, rfl⟩ := h
      have hr := run_unS (P := g.P) hb (hI.ev x)
      exact ⟨v, w, F, lam, .inl (by simp only [execOp, ho]; exact pv hr.1), hI.same, rfl, hr.2⟩
    · cases h
  · rename_i s d x ho
    split at h
    · rename_i v hb
      simp only [Option.some.injEq, Prod.mk.injEq] at h; obtain ⟨rfl, rfl, rfl⟩ := h
      have hr := run_convS (P := g.P) hb (hI.ev x)
      exact ⟨v, w, F, lam, .inl (by simp only [execOp, ho]; exact pv hr.1), hI.same, rfl, hr.2⟩
    · cases h
  · rename_i t x ho
    split at h
    · rename_i v c' hb
      simp only [Option.some.injEq, Prod.mk.injEq] at h; obtain ⟨rfl, rfl, rfl⟩ := h
      obtain ⟨u, hr, hv⟩ := run_loadS hI hb hc (hI.ev x)
      exact ⟨u, w, F, lam, .inl (by simp only [execOp, ho]; exact pv hr), hI.same, hv⟩
    · cases h
  · rename_i t p x ho
    split at h
    · rename_i m1 c' hb
      simp only [Option.some.injEq, Prod.mk.injEq] at h; obtain ⟨rfl, rfl, rfl⟩ := h
      obtain ⟨w', hr, hn⟩ := run_storeS hI hb hc (hI.ev p) (hI.ev x)
      exact ⟨undef, w', F, lam, .inr ⟨by simp only [execOp, ho, Sem.run_bind, hr, Result.andThen_ok, Sem.run_pure], rfl⟩, hn, trivial⟩
    · cases h
  · rename_i s x f ho
    split at h
    · rename_i v hb
      simp only [Option.some.injEq, Prod.mk.injEq] at h; obtain ⟨rfl, rfl, rfl⟩ := h
      obtain ⟨u, hr, hv⟩ := run_fieldAddrS (P := g.P) hb (hI.ev x)
      exact ⟨u, w, F, lam, .inl (by simp only [execOp, ho]; exact pv hr), hI.same, hv⟩
    · cases h
  · rename_i s x f ho
    split at h
    · rename_i v c' hb
      simp only [Option.some.injEq, Prod.mk.injEq] at h; obtain ⟨rfl, rfl, rfl⟩ := h
      obtain ⟨u, hr, hv⟩ := run_fieldS (P := g.P) hb hc (hI.ev x)
      exact ⟨u, w, F, lam, .inl (by simp only [execOp, ho]; exact pv hr), hI.same, hv⟩
    · cases h
  · rename_i t x i ho
    split at h
    · rename_i v c' hb
      simp only [Option.some.injEq, Prod.mk.injEq] at h; obtain ⟨rfl, rfl, rfl⟩ := h
      obtain ⟨u, hr, hv⟩ := run_indexAddrS (P := g.P) hb hc (hI.ev x) (hI.ev i)
      exact ⟨u, w, F, lam, .inl (by simp only [execOp, ho]; exact pv hr), hI.same, hv⟩
    · cases h
  · rename_i t x i ho
    split at h
    · rename_i v c' hb
      simp only [Option.some.injEq, Prod.mk.injEq] at h; obtain ⟨rfl, rfl, rfl⟩ := h
      obtain ⟨u, hr, hv⟩ := run_indexS (P := g.P) hb hc (hI.ev x) (hI.ev i)
      exact ⟨u, w, F, lam, .inl (by simp only [execOp, ho]; exact pv hr), hI.same, hv⟩
    · cases h
  · rename_i t x lo hi mx ho
    obtain ⟨u, F', lam', hr, hn, hv⟩ := run_sliceS hI rfl h hc
    exact ⟨u, w, F', lam', .inl (by simp only [execOp, ho]; exact pv hr), hn, hv⟩
  · rename_i t x ho
    split at h
    · rename_i as hg has
      simp only [Option.some.injEq, Prod.mk.injEq] at h; obtain ⟨rfl, rfl, rfl⟩ := h
      obtain ⟨u, w', F', lam', hr, hn, hv⟩ := good_box hI hg hc (atomsOf_RL has (hI.ev x)) (run_box (P := g.P) t (a.eval x))
      exact ⟨u, w', F', lam', .inl (by simp only [execOp, ho]; exact run_v hr), hn, hv⟩
    · cases h
  · rename_i t ho
    split at h
    · rename_i as hg has
      split at h
      · rename_i hs
        simp only [Option.some.injEq, Prod.mk.injEq] at h; obtain ⟨rfl, rfl, rfl⟩ := h
        obtain ⟨i, z, hi, hz, rfl⟩ := info_zeroAtoms has
        obtain ⟨u, w', F', lam', hr, hn, hv⟩ := good_box hI hg hc (RL_zero hs) (run_alloc (P := g.P) hi hz (.tuple #[]))
        exact ⟨u, w', F', lam', .inl (by simp only [execOp, ho]; exact run_v hr), hn, hv⟩
      · cases h
    · cases h
  · rename_i t parts ho
    split at h
    · rename_i fs as ht hz
      split at h
      · rename_i hs
        split at h
        · rename_i cs hf
          simp only [Option.some.injEq, Prod.mk.injEq] at h; obtain ⟨rfl, rfl, rfl⟩ := h
          obtain ⟨u, hr, hv⟩ := good_build hI ht hz hs.1 hs.2 hf
          exact ⟨u, w, F, lam, .inl (by simp only [execOp, ho]; exact pv hr), hI.same, hv⟩
        · cases h
      · cases h
    · cases h
  · rename_i t len parts ho
    split at h
    · rename_i e ht
      split at h
      · rename_i sz z hg hs hz
        split at h
        · rename_i hh
          split at h
          · rename_i rows hf
            simp only [Option.some.injEq, Prod.mk.injEq] at h; obtain ⟨rfl, rfl, rfl⟩ := h
            obtain ⟨u, w', F', lam', hr, hn, hv⟩ := good_buildSlice hI ht hg hc hs hz hh.1 hh.2.1 hh.2.2 hf
            exact ⟨u, w', F', lam', .inl (by simp only [execOp, ho]; exact run_v hr), hn, hv⟩
          · cases h
        · cases h
      · cases h
    · cases h
  · rename_i t l cp ho
    split at h
    · rename_i e k n k' n' ht hl hcp
      split at h
      · rename_i sz z by_ hg hs hz hb
        split at h
        · rename_i hh
          simp only [Option.some.injEq, Prod.mk.injEq] at h; obtain ⟨rfl, rfl, rfl⟩ := h
          obtain ⟨hk, rfl, h0, h1, h2⟩ := hc
          have el := hI.ev l
          have ec := hI.ev cp
          rw [hl] at el; rw [hcp] at ec
          obtain ⟨u, w', F', lam', hr, hn, hv⟩ := good_makeSlice hI (k := k) (k' := k') ht hg hk hs hz hb hh.1 hh.2 h0 h1 h2
          exact ⟨u, w', F', lam', .inl (by simp only [execOp, ho, el.1, ec.1]; exact run_v hr), hn, hv⟩
        · cases h
      · cases h
    · cases h
  · rename_i x i ho
    have hx := hI.ev x
    split at h
    · rename_i xs hxs
      rw [hxs] at hx
      obtain ⟨us, hu, hlen, hall⟩ := hx
      split at h
      · rename_i v hv
        simp only [Option.some.injEq, Prod.mk.injEq] at h; obtain ⟨rfl, rfl, rfl⟩ := h
        have hi : i < us.length := by rw [← hlen]; exact (List.getElem?_eq_some_iff.1 hv).1
        have hui : us[i]? = some us[i] := List.getElem?_eq_getElem hi
        refine ⟨us[i], w, F, lam, .inl ?_, hI.same, ?_⟩
        · simp only [execOp, ho]
          refine pv ?_
          simp only [hu, Instr.extract, List.getElem?_toArray, hui, Sem.run_pure]
        · have := hall i v us[i] hv hui
          cases v with
          | «at» a => exact this
          | ag cs => exact this
          | tp xs => exact this.elim
      · cases h
    · cases h
  · rename_i x ho
    have hx := hI.ev x
    split at h
    · rename_i k ver off hk
      rw [hk] at hx
      simp only [Option.some.injEq, Prod.mk.injEq] at h; obtain ⟨rfl, rfl, rfl⟩ := h
      have hx' := hx
      obtain ⟨_, ⟨b, o, hu⟩, _⟩ := hx'
      refine ⟨a.eval x, w, F, lam, .inl ?_, hI.same, hx⟩
      simp only [execOp, ho]
      rw [hu]
      simp
    · cases h
  · rename_i cl ho
    split at h
    · rename_i b hcl
      obtain ⟨u, w', F', lam', hr, hn, hv⟩ := good_builtin hI (ty := o.type) h hc (cl.args.map fun | .const _ => true | _ => false)
      refine ⟨u, w', F', lam', .inl ?_, hn, hv⟩
      simp only [execOp, ho, resolve, hcl, Sem.run_bind, Sem.run_pure, Result.andThen_ok, invoke]
      exact hr
    · cases h
  · cases h

end
end Go.Abs
