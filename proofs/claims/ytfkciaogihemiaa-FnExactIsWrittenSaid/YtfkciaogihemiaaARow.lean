/- What a law is handed, read as data. -/
import Derived.Test.YtfkciaogihemiaaAEv
namespace Go.Abs
open Go.RowKit
set_option linter.unusedVariables false
set_option linter.unusedSimpArgs false

theorem Below.ofChg {P : Program} {w w' : World} {F : Nat → Prop} {lam : Lam} {n : Nat} (h : Chg (gOf P w F lam 0 n) w') : Below w.heap.size w w' :=
  ⟨h.os, h.tape, h.output, h.size, fun k hk => h.block k hk (by rintro ⟨_, _, h, _⟩; omega)⟩

section
variable {H : Type} {enc : TypeId × Value → H} {P : Program} {w : World} {fuel : Nat} {t e : TypeId} {cs : List Value} {x : DataW H × List MemPlace} {F : Nat → Prop} {m : Mem} {lam : Lam}

theorem opn_int {k : IntKind} (ht : P.underlying t = some (.int k)) (h : DataW.trod enc P w 0 (fun _ => true) true fuel t cs = some x) : ∃ n, cs = [.int k n] ∧ (Lit.int k n).wf = true := by
  cases fuel with
  | zero => simp [DataW.trod] at h
  | succ f =>
    simp only [DataW.trod, ht] at h
    rcases cs with _ | ⟨v, _ | ⟨v', cs⟩⟩
    · simp at h
    · cases v <;> simp at h
      obtain ⟨⟨rfl, h1⟩, _⟩ := h
      exact ⟨_, rfl, h1⟩
    · simp at h
theorem opn_bool (ht : P.underlying t = some .bool) (h : DataW.trod enc P w 0 (fun _ => true) true fuel t cs = some x) : ∃ b, cs = [.bool b] := by
  cases fuel with
  | zero => simp [DataW.trod] at h
  | succ f =>
    simp only [DataW.trod, ht] at h
    rcases cs with _ | ⟨v, _ | ⟨v', cs⟩⟩
    · simp at h
    · cases v <;> simp at h
      exact ⟨_, rfl⟩
    · simp at h
theorem opn_string (ht : P.underlying t = some .string) (h : DataW.trod enc P w 0 (fun _ => true) true fuel t cs = some x) : ∃ s, cs = [.string s] ∧ s.size ≤ maxLen := by
  cases fuel with
  | zero => simp [DataW.trod] at h
  | succ f =>
    simp only [DataW.trod, ht] at h
    rcases cs with _ | ⟨v, _ | ⟨v', cs⟩⟩
    · simp at h
    · cases v <;> simp at h
      exact ⟨_, rfl, h.1⟩
    · simp at h

theorem mapM_some {β γ : Type} {f : β → Option γ} : ∀ {l : List β} {ys : List γ}, l.mapM f = some ys → ys.length = l.length ∧ ∀ (i : Nat) (b : β), l[i]? = some b → ∃ y, f b = some y ∧ ys[i]? = some y := by
  intro l
  induction l with
  | nil => intro ys h; simp at h; subst h; simp
  | cons b l ih =>
    intro ys h
    simp only [List.mapM_cons] at h
    cases hb : f b with
    | none => simp [hb] at h
    | some y =>
      cases hl : l.mapM f with
      | none => simp [hb, hl] at h
      | some zs =>
        simp [hb, hl] at h
        subst h
        obtain ⟨h1, h2⟩ := ih hl
        refine ⟨by simp [h1], fun i c hc => ?_⟩
        cases i with
        | zero => simp at hc; subst hc; exact ⟨y, hb, rfl⟩
        | succ i => obtain ⟨z, h3, h4⟩ := h2 i c (by simpa using hc); exact ⟨z, h3, by simpa using h4⟩

theorem cells_get {a : Addr} {n : Nat} {r : List Value} (h : w.cells? 0 a n = some r) : r.length = n ∧ ∀ i u, r[i]? = some u → w.cell? (a.add i) = some u := by
  simp only [World.cells?, Nat.zero_le, if_true] at h
  obtain ⟨h1, h2⟩ := mapM_some h
  rw [List.length_range] at h1
  refine ⟨h1, fun i u hu => ?_⟩
  have hi : i < n := by rw [← h1]; exact (List.getElem?_eq_some_iff.1 hu).1
  obtain ⟨y, h3, h4⟩ := h2 i i (by simp [hi])
  rw [hu] at h4; cases h4
  exact h3

theorem opn_struct {fs : Array Field} (ht : P.underlying t = some (.struct fs)) (h : DataW.trod enc P w 0 (fun _ => true) true fuel t cs = some x) :
    cs.length = P.cellsOf t ∧ ∃ f, ∀ fd ∈ fs.toList, ∃ y, DataW.trod enc P w 0 (fun _ => true) true f fd.type ((cs.drop fd.offset).take (P.cellsOf fd.type)) = some y := by
  cases fuel with
  | zero => simp [DataW.trod] at h
  | succ f =>
    simp only [DataW.trod, ht] at h
    split at h
    · rename_i hl
      refine ⟨hl, f, fun fd hfd => ?_⟩
      simp only [Option.map_eq_some_iff] at h
      obtain ⟨xs, h1, _⟩ := h
      obtain ⟨h2, h3⟩ := mapM_some h1
      obtain ⟨i, hi⟩ := List.getElem?_of_mem hfd
      obtain ⟨y, h4, _⟩ := h3 i fd hi
      exact ⟨y, h4⟩
    · simp at h

theorem RowsAt.of_rows {b sz : Nat} : ∀ {rows : List (List Value)} {o : Nat}, Wf sz rows → (∀ i r, rows[i]? = some r → RowsAt w b (o + i * sz) r) → RowsAt w b o rows.flatten := by
  intro rows
  induction rows with
  | nil => intro o _ _ j u hj; simp at hj
  | cons r rows ih =>
    intro o hw h j u hj
    have hr : r.length = sz := hw r (by simp)
    rw [List.flatten_cons, List.getElem?_append] at hj
    split at hj
    · have := h 0 r rfl j u hj
      simpa using this
    · have h2 := ih (o := o + sz) (fun r' hr' => hw r' (by simp [hr'])) (fun i r' hi => by
        have := h (i + 1) r' (by simpa using hi)
        rw [Nat.succ_mul] at this
        rw [show o + sz + i * sz = o + (i * sz + sz) by omega]; exact this) (j - r.length) u hj
      rw [show o + sz + (j - r.length) = o + j by omega] at h2
      exact h2

/-- A slice, read: its rows. -/
theorem opn_slice {sz : Nat} (ht : P.underlying t = some (.slice e)) (hs : P.cellsOf e = sz) (hpos : 0 < sz) (hF : ∀ b, b < w.heap.size → F b)
    (one : ∀ f r (y : DataW H × List MemPlace), DataW.trod enc P w 0 (fun _ => true) true f e r = some y → ∀ u ∈ r, u.oneCell' = true)
    (h : DataW.trod enc P w 0 (fun _ => true) true fuel t cs = some x) :
    ∃ v rows, cs = [v] ∧ v.oneCell' = true ∧ RA w F m lam (.im sz rows) v ∧ rows.length ≤ maxLen ∧ ∀ r ∈ rows, ∃ f y, DataW.trod enc P w 0 (fun _ => true) true f e r = some y := by
  cases fuel with
  | zero => simp [DataW.trod] at h
  | succ f =>
    simp only [DataW.trod, ht] at h
    rcases cs with _ | ⟨v, _ | ⟨v', cs⟩⟩
    · simp at h
    · cases v with
      | slice a len cap =>
        cases a with
        | none =>
          cases len with
          | zero => cases cap with
            | zero => exact ⟨_, [], rfl, rfl, ⟨(by intro r hr; cases hr), none, 0, rfl, Nat.le_refl _, Nat.zero_le _, .inl rfl⟩, Nat.zero_le _, by simp⟩
            | succ c => simp at h
          | succ l => simp at h
        | some a =>
          simp only [Nat.zero_le, true_and] at h
          split at h
          · rename_i hlc
            cases hel : (List.range len).mapM fun i => (w.cells? 0 (a.add (i * P.cellsOf e)) (P.cellsOf e)).bind (DataW.trod enc P w 0 (fun _ => true) true f e) with
            | none => rw [hel] at h; simp at h
            | some elems =>
              obtain ⟨h1, h2⟩ := mapM_some hel
              rw [List.length_range] at h1
              have h3 : ∀ i, i < len → ∃ r, w.cells? 0 (a.add (i * sz)) sz = some r ∧ ∃ y, DataW.trod enc P w 0 (fun _ => true) true f e r = some y := by
                intro i hi
                obtain ⟨y, h4, _⟩ := h2 i i (by simp [hi])
                rw [hs] at h4
                simp only [Option.bind_eq_some_iff] at h4
                obtain ⟨r, h5, h6⟩ := h4
                exact ⟨r, h5, y, h6⟩
              -- the rows
              let row : Nat → List Value := fun i => (w.cells? 0 (a.add (i * sz)) sz).getD []
              have hrow : ∀ i, i < len → w.cells? 0 (a.add (i * sz)) sz = some (row i) ∧ ∃ y, DataW.trod enc P w 0 (fun _ => true) true f e (row i) = some y := by
                intro i hi
                obtain ⟨r, h5, h6⟩ := h3 i hi
                have : row i = r := by simp [row, h5]
                rw [this]; exact ⟨h5, h6⟩
              refine ⟨_, (List.range len).map row, rfl, rfl, ?_, by simp; omega, ?_⟩
              · have hspot : 0 < len → a = ⟨a.block, a.off, none⟩ ∧ a.block < w.heap.size := by
                  intro h0
                  obtain ⟨h5, h6⟩ := cells_get (hrow 0 h0).1
                  have h7 := h6 0 ((row 0)[0]'(by omega)) (List.getElem?_eq_getElem (by omega))
                  simp only [Nat.zero_mul, Addr.add, if_true, World.cell?] at h7
                  split at h7
                  · rename_i hg
                    split at h7
                    · cases h7
                    · rename_i hsp
                      refine ⟨?_, (Array.getElem?_eq_some_iff.1 hg).1⟩
                      obtain ⟨ab, ao, asp⟩ := a
                      cases asp with
                      | none => rfl
                      | some _ => simp at hsp
                  · cases h7
                have hwf : Wf sz ((List.range len).map row) := by
                  intro r hr
                  simp only [List.mem_map, List.mem_range] at hr
                  obtain ⟨i, hi, rfl⟩ := hr
                  exact (cells_get (hrow i hi).1).1
                refine ⟨hwf, some a, cap, by simp, by simp; omega, hlc.2, ?_⟩
                by_cases h0 : len = 0
                · left; subst h0; rfl
                · right
                  obtain ⟨ha, hb⟩ := hspot (by omega)
                  refine ⟨a.block, a.off, by rw [← ha], hF _ hb, RowsAt.of_rows hwf fun i r hir j u hju => ?_⟩
                  have hi : i < len := by
                    have := (List.getElem?_eq_some_iff.1 hir).1; simpa using this
                  simp only [List.getElem?_map, List.getElem?_range hi, Option.map_some, Option.some.injEq] at hir
                  subst hir
                  have h5 := (cells_get (hrow i hi).1).2 j u hju
                  obtain ⟨y, hy⟩ := (hrow i hi).2
                  refine ⟨?_, one _ _ _ hy u (List.mem_of_getElem? hju)⟩
                  have hadd : (a.add (i * sz)).add j = ⟨a.block, a.off + i * sz + j, none⟩ := by
                    rw [ha]
                    generalize i * sz = q
                    simp only [Addr.add]
                    by_cases hq : q = 0 <;> by_cases hj : j = 0 <;> simp [hq, hj]
                  rw [hadd] at h5
                  exact h5
              · intro r hr
                simp only [List.mem_map, List.mem_range] at hr
                obtain ⟨i, hi, rfl⟩ := hr
                exact ⟨f, (hrow i hi).2⟩
          · simp at h
      | _ => simp at h
    · simp at h


theorem rows_data {β : Type} {f : β → List Value} {q : β → Prop} : ∀ {rows : List (List Value)}, (∀ r ∈ rows, ∃ p, r = f p ∧ q p) → ∃ l : List β, rows = l.map f ∧ ∀ p ∈ l, q p := by
  intro rows
  induction rows with
  | nil => intro _; exact ⟨[], rfl, by simp⟩
  | cons r rows ih =>
    intro h
    obtain ⟨p, rfl, hq⟩ := h r (by simp)
    obtain ⟨l, rfl, hl⟩ := ih fun r hr => h r (by simp [hr])
    exact ⟨p :: l, rfl, by simpa using ⟨hq, hl⟩⟩

/-- A slice of structs, read. -/
theorem opn_rows {β : Type} {f : β → List Value} {q : β → Prop} {sz : Nat} (ht : P.underlying t = some (.slice e)) (hs : P.cellsOf e = sz) (hpos : 0 < sz) (hF : ∀ b, b < w.heap.size → F b)
    (el : ∀ fu r (y : DataW H × List MemPlace), DataW.trod enc P w 0 (fun _ => true) true fu e r = some y → ∃ p, r = f p ∧ q p) (one : ∀ p, ∀ u ∈ f p, u.oneCell' = true)
    (h : DataW.trod enc P w 0 (fun _ => true) true fuel t cs = some x) :
    ∃ (v : Value) (l : List β), cs = [v] ∧ v.oneCell' = true ∧ RA w F m lam (.im sz (l.map f)) v ∧ l.length ≤ maxLen ∧ ∀ p ∈ l, q p := by
  obtain ⟨v, rows, h1, h2, h3, h4, h5⟩ := opn_slice (m := m) (lam := lam) ht hs hpos hF (fun fu r y hy u hu => by
    obtain ⟨p, rfl, _⟩ := el fu r y hy
    exact one p u hu) h
  obtain ⟨l, rfl, hl⟩ := rows_data (f := f) (q := q) fun r hr => by
    obtain ⟨fu, y, hy⟩ := h5 r hr
    exact el fu r y hy
  exact ⟨v, l, h1, h2, h3, by simpa using h4, hl⟩

end

/-- A law's call, out of its contract. -/
theorem law_calls {P : Program} {f : FuncId} {args : List AV} {us : List Value} {W : World} (h : SC P f args [] (.at (.v (.bool true))) []) (hl : args.length = us.length)
    (hv : ∀ (i : Nat) (x : AV) (u : Value), args[i]? = some x → us[i]? = some u → RV1 W (fun b => b < W.heap.size) (ofM 0 1000 [] []) (fun _ => none) x u) :
    Calls P f us.toArray W fun e W' => e = .returned (.bool true) ∧ Below W.heap.size W W' := by
  have hM : MemRel (gOf P W (fun b => b < W.heap.size) (fun _ => none) 0 0) W (fun b => b < W.heap.size) (ofM 0 1000 [] []) (fun _ => none) := by
    have hg : ∀ k, ofM 0 1000 [] [] k = Ent.gone := by intro k; simp [ofM]
    exact ⟨fun k => by rw [hg]; trivial, fun k k' b o o' h => by rw [hg] at h; exact h.elim⟩
  refine (h.2 W _ _ us (fun b hb => hb) hM hl hv).mono ?_
  rintro e w' ⟨v, F', lam', rfl, _, _, _, hc, _, _, hr⟩
  refine ⟨?_, Below.ofChg hc⟩
  have hr' : v = .bool true ∧ _ := hr
  rw [hr'.1]

end Go.Abs
