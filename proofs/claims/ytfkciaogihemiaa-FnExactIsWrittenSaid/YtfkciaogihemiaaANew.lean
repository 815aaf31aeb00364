/- What one operation does: boxes, zero values, literals, made slices, stores. -/
import Derived.Test.YtfkciaogihemiaaAMem
namespace Go.Abs
open Go.RowKit
set_option linter.unusedVariables false
set_option linter.unusedSimpArgs false

section lists
variable {β : Type}

theorem splice_length {l xs : List β} {o : Nat} (h : o + xs.length ≤ l.length) : (splice l o xs).length = l.length := by
  simp only [splice, List.length_append, List.length_take, List.length_drop]; omega

theorem splice_getElem? (l xs : List β) (o j : Nat) (h : o + xs.length ≤ l.length) : (splice l o xs)[j]? = if o ≤ j ∧ j < o + xs.length then xs[j - o]? else l[j]? := by
  unfold splice
  rw [List.append_assoc, List.getElem?_append, List.length_take, Nat.min_eq_left (by omega)]
  by_cases h1 : j < o
  · rw [if_pos h1, if_neg (by omega), List.getElem?_take, if_pos h1]
  · rw [if_neg h1, List.getElem?_append]
    by_cases h2 : j - o < xs.length
    · rw [if_pos h2, if_pos (by omega)]
    · rw [if_neg h2, if_neg (by omega), List.getElem?_drop]
      congr 1; omega

theorem splice_drop {l xs : List β} {o k : Nat} (h : o + k + xs.length ≤ l.length) : (splice l (o + k) xs).drop o = splice (l.drop o) k xs := by
  apply List.ext_getElem?
  intro j
  rw [List.getElem?_drop, splice_getElem? _ _ _ _ h, splice_getElem? _ _ _ _ (by rw [List.length_drop]; omega), List.getElem?_drop]
  by_cases hc : k ≤ j ∧ j < k + xs.length
  · rw [if_pos hc, if_pos (by omega)]; congr 1; omega
  · rw [if_neg hc, if_neg (by omega)]

theorem splice_take {l xs : List β} {k n : Nat} (h : k + xs.length ≤ n) (hn : n ≤ l.length) : (splice l k xs).take n = splice (l.take n) k xs := by
  apply List.ext_getElem?
  intro j
  rw [List.getElem?_take, splice_getElem? _ _ _ _ (by omega), splice_getElem? _ _ _ _ (by rw [List.length_take]; omega), List.getElem?_take]
  by_cases hj : j < n
  · simp only [if_pos hj]
  · rw [if_neg hj, if_neg (by omega), if_neg hj]

theorem splice_all {l xs : List β} (h : xs.length = l.length) : splice l 0 xs = xs := by
  simp [splice, h, List.drop_eq_nil_of_le]

theorem mem_splice {l xs : List β} {o : Nat} {u : β} (h : u ∈ splice l o xs) : u ∈ l ∨ u ∈ xs := by
  simp only [splice, List.mem_append] at h
  rcases h with (h | h) | h
  · exact .inl (List.mem_of_mem_take h)
  · exact .inr h
  · exact .inl (List.mem_of_mem_drop h)
end lists

theorem flatten_set {sz i off : Nat} {rows : List (List Value)} {us : List Value} (hw : Wf sz rows) (hi : i < rows.length) (ho : off + us.length ≤ sz) :
    (rows.set i (splice (rows.getD i []) off us)).flatten = splice rows.flatten (i * sz + off) us := by
  induction rows generalizing i with
  | nil => simp at hi
  | cons r rows ih =>
    have h1 : r.length = sz := hw r (by simp)
    have h2 : Wf sz rows := fun r' hr => hw r' (by simp [hr])
    cases i with
    | zero =>
      simp only [List.set_cons_zero, List.flatten_cons, List.getD_cons_zero, Nat.zero_mul, Nat.zero_add]
      apply List.ext_getElem?
      intro j
      rw [splice_getElem? _ _ _ _ (by rw [List.length_append]; omega), List.getElem?_append, splice_length (by omega), splice_getElem? _ _ _ _ (by omega), List.getElem?_append]
      by_cases hj : j < r.length
      · simp only [if_pos hj]
      · rw [if_neg hj, if_neg (by omega), if_neg hj]
    | succ i =>
      have hi' : i < rows.length := by simpa using hi
      simp only [List.set_cons_succ, List.flatten_cons, List.getD_cons_succ, ih h2 hi']
      have hfl := flatten_length h2
      have hb : i * sz + off + us.length ≤ rows.flatten.length := by
        rw [hfl]
        have : (i + 1) * sz ≤ rows.length * sz := Nat.mul_le_mul_right _ hi'
        rw [Nat.add_mul] at this; omega
      have he : (i + 1) * sz + off = r.length + (i * sz + off) := by rw [h1, Nat.add_mul]; omega
      apply List.ext_getElem?
      intro j
      rw [List.getElem?_append, he, splice_getElem? (r ++ rows.flatten) us _ j (by rw [List.length_append]; omega), List.getElem?_append]
      by_cases hj : j < r.length
      · rw [if_pos hj, if_neg (by omega), if_pos hj]
      · rw [if_neg hj, if_neg hj, splice_getElem? _ _ _ _ hb]
        by_cases hc : i * sz + off ≤ j - r.length ∧ j - r.length < i * sz + off + us.length
        · rw [if_pos hc, if_pos (by omega)]; congr 1; omega
        · rw [if_neg hc, if_neg (by omega)]

theorem Wf.set {sz i off : Nat} {rows : List (List Value)} {us : List Value} (hw : Wf sz rows) (hi : i < rows.length) (ho : off + us.length ≤ sz) :
    Wf sz (rows.set i (splice (rows.getD i []) off us)) := by
  intro r hr
  rcases List.mem_or_eq_of_mem_set hr with h | h
  · exact hw r h
  · rw [h, splice_length (by rw [(row_at hw hi).1]; omega), (row_at hw hi).1]

section
variable {P : Program} {w : World} {F : Nat → Prop} {m : Mem} {lam : Lam}

theorem cells_one {u : Value} (h : u.oneCell' = true) : u.cells = #[u] := by
  cases u <;> simp_all [Value.cells, Value.oneCell']

theorem atomsOf_RL {X : AV} {as : List A} {u : Value} (h : atomsOf X = some as) (hX : RV w F m lam X u) : RL (fun a x => RA w F m lam a x ∧ x.oneCell' = true) as u.cells.toList := by
  unfold atomsOf at h
  split at h
  · rename_i A0
    split at h
    · rename_i hs
      simp only [Option.some.injEq] at h; subst h
      have h1 := RA.solid hX hs
      rw [cells_one h1]
      refine ⟨rfl, fun i a x ha hx => ?_⟩
      cases i with
      | zero => simp at ha hx; subst ha; subst hx; exact ⟨hX, h1⟩
      | succ i => simp at ha
    · cases h
  · simp only [Option.some.injEq] at h; subst h
    obtain ⟨us, rfl, hR⟩ := hX
    simpa [Value.cells] using hR
  · cases h

theorem valsOf_RL {as : List A} {us vs : List Value} (h : valsOf as = some vs) (hR : RL (fun a x => RA w F m lam a x ∧ x.oneCell' = true) as us) : us = vs ∧ ∀ u ∈ vs, u.oneCell' = true := by
  induction as generalizing us vs with
  | nil =>
    simp only [valsOf, Option.some.injEq] at h; subst h
    have := hR.1
    simp at this
    exact ⟨List.eq_nil_of_length_eq_zero this.symm, by simp⟩
  | cons a as ih =>
    cases a <;> simp only [valsOf, reduceCtorEq] at h
    rename_i x
    cases hv : valsOf as with
    | none => simp [hv] at h
    | some vs' =>
      simp only [hv, Option.map_some, Option.some.injEq] at h; subst h
      cases us with
      | nil => have := hR.1; simp at this
      | cons u us =>
        have h0 := hR.2 0 _ _ rfl rfl
        have ht := ih hv ⟨by have := hR.1; simpa using this, fun i a u ha hu => hR.2 (i + 1) a u (by simpa using ha) (by simpa using hu)⟩
        obtain ⟨⟨rfl, _⟩, h1⟩ := h0
        exact ⟨by rw [ht.1], by simpa [h1] using ht.2⟩

theorem RL.splice {R : A → Value → Prop} {as bs : List A} {us vs : List Value} (h : RL R as us) (h' : RL R bs vs) {o : Nat} (ho : o + bs.length ≤ as.length) : RL R (splice as o bs) (splice us o vs) := by
  have hl := h.1; have hl' := h'.1
  refine ⟨by rw [splice_length ho, splice_length (by omega), hl], fun i a u ha hu => ?_⟩
  rw [splice_getElem? _ _ _ _ ho] at ha
  rw [splice_getElem? _ _ _ _ (by omega)] at hu
  by_cases hc : o ≤ i ∧ i < o + bs.length
  · rw [if_pos hc] at ha; rw [if_pos (by omega)] at hu; exact h'.2 _ _ _ ha hu
  · rw [if_neg hc] at ha; rw [if_neg (by omega)] at hu; exact h.2 _ _ _ ha hu

theorem RL_zero {z : Value} (hall : (z.cells.toList.map atomOf).all A.solid = true) : RL (fun a x => RA w F m lam a x ∧ x.oneCell' = true) (z.cells.toList.map atomOf) z.cells.toList := by
  refine ⟨by simp, fun i a u ha hu => ?_⟩
  simp only [List.getElem?_map, hu, Option.map_some, Option.some.injEq] at ha
  subst ha
  rw [List.all_eq_true] at hall
  exact ⟨RA_atomOf _ _ _ _ _, oneCell_of_atomOf (hall _ (List.mem_map_of_mem (List.mem_of_getElem? hu)))⟩
end

section
variable {g : G} {F : Nat → Prop} {lam : Lam} {σ : St} {a : Act} {w : World}

/-- A new block that a box is. -/
theorem good_box (hI : Inv g F lam σ a w) {κ : Nat} (hg : σ.m κ = .gone) (hk : g.nx ≤ κ) {as : List A} {cs : Array Value} {ty : TypeId}
    (hR : RL (fun a x => RA w F σ.m lam a x ∧ x.oneCell' = true) as cs.toList) {s : Sem Value} (hr : s.run g.P w = .ok (.pointer (some ⟨w.heap.size, 0, none⟩)) (w.alloc (.cells cs ty))) :
    ∃ u w' F' lam', s.run g.P w = .ok u w' ∧ Nx g F lam σ.m w F' lam' (upd σ.m κ (.box 0 as)) w' ∧ RV w' F' (upd σ.m κ (.box 0 as)) lam' (.at (.bx κ 0 0)) u := by
  refine ⟨_, _, F, _, hr, Nx.new hI hg hk (Pushed.alloc w (.cells cs ty)) fun L => ?_, ?_⟩
  · exact ⟨w.heap.size, cs, ty, upd_same _ _ _, heap_alloc_new w _, fun h => by have := hI.f3 _ h; omega, ⟨fun h => by omega, fun _ => hI.chg.size⟩, hR.mono fun a u h => ⟨RA.le L h.1, h.2⟩⟩
  · refine ⟨by rw [upd_same]; simp [Ent.ver], ⟨_, _, rfl⟩, fun cells hm => ⟨w.heap.size, upd_same _ _ _, rfl⟩⟩

/-- A new block that an array is, at its begin. -/
theorem good_arr (hI : Inv g F lam σ a w) {κ : Nat} (hg : σ.m κ = .gone) (hk : g.nx ≤ κ) {sz cap : Nat} {rows : List (List Value)} {cs : Array Value} {ty : TypeId} (hw : Wf sz rows)
    (h1 : ∀ u ∈ rows.flatten, u.oneCell' = true) (hc : cs.toList.take rows.flatten.length = rows.flatten) (hcap : cap * sz ≤ cs.size) (hn : rows.length ≤ cap) (hm : cap ≤ maxLen)
    {w' : World} (hp : Pushed w w' (.cells cs ty)) {s : Sem Value} (hr : s.run g.P w = .ok (.slice (some ⟨w.heap.size, 0, none⟩) rows.length cap) w') :
    ∃ u w' F' lam', s.run g.P w = .ok u w' ∧ Nx g F lam σ.m w F' lam' (upd σ.m κ (.arr 0 sz rows)) w' ∧ RV w' F' (upd σ.m κ (.arr 0 sz rows)) lam' (.at (.ow κ 0 sz rows.length)) u := by
  refine ⟨_, w', F, _, hr, Nx.new hI hg hk hp fun L => ?_, ?_⟩
  · exact ⟨hw, .inr ⟨w.heap.size, 0, cs, ty, upd_same _ _ _, hp.new, fun h => by have := hI.f3 _ h; omega, ⟨fun h => by omega, fun _ => hI.chg.size⟩, Nat.zero_le _, by simpa using hc, h1⟩⟩
  · refine ⟨by rw [upd_same]; simp [Ent.ver], .inr ⟨_, _, _, rfl⟩, fun sz' rows' hm' => ?_⟩
    rw [upd_same] at hm'
    simp only [Ent.arr.injEq, true_and, reduceCtorEq, or_false] at hm'
    obtain ⟨rfl, rfl⟩ := hm'
    exact ⟨rfl, rfl, .inr ⟨w.heap.size, 0, cap, upd_same _ _ _, rfl, hn, hm, by rw [bsize_eq hp.new]; omega⟩⟩

theorem run_box {P : Program} (t : TypeId) (u : Value) : (Instr.box t u).run P w = .ok (.pointer (some ⟨w.heap.size, 0, none⟩)) (w.alloc (.cells u.cells t)) := by
  simp [Instr.box, newVar, newRow]

theorem run_alloc {P : Program} {t : TypeId} {i : TypeInfo} {z : Value} (hi : P.info? t = some i) (hz : i.zero = some z) (old : Value) : (Instr.alloc t true old).run P w = .ok (.pointer (some ⟨w.heap.size, 0, none⟩)) (w.alloc (.cells z.cells t)) := by
  simp [Instr.alloc, zeroValue, typeInfo, hi, hz, newVar, newRow]

theorem info_zeroAtoms {P : Program} {t : TypeId} {as : List A} (h : zeroAtoms P t = some as) : ∃ i z, P.info? t = some i ∧ i.zero = some z ∧ as = z.cells.toList.map atomOf := by
  unfold zeroAtoms at h
  split at h
  · rename_i i hi
    cases hz : i.zero with
    | none => simp [hz] at h
    | some z => simp [hz] at h; exact ⟨i, z, hi, hz, h.symm⟩
  · cases h

theorem info_zeroVals {P : Program} {t : TypeId} {zs : List Value} (h : zeroVals P t = some zs) : ∃ i z, P.info? t = some i ∧ i.zero = some z ∧ zs = z.cells.toList := by
  unfold zeroVals at h
  split at h
  · rename_i i hi
    cases hz : i.zero with
    | none => simp [hz] at h
    | some z => simp [hz] at h; exact ⟨i, z, hi, hz, h.symm⟩
  · cases h

theorem run_storeVar {P : Program} {t ty : TypeId} {b o s : Nat} {cur : Array Value} {u : Value} (hs : szT P t = some s) (hu : u.cells.size = s) (hg : w.heap[b]? = some (.cells cur ty (0, 0)))
    (ho : o + s ≤ cur.size) (h1 : ∀ x ∈ u.cells.toList, x.oneCell' = true) :
    (Instr.storeAt t (.pointer (some ⟨b, o, none⟩)) u).run P w = .ok () (w.setRow b (splice cur.toList o u.cells.toList).toArray) := by
  have := run_storeCells_at P b o ty u.cells.toList 0 cur w hg (by simp [hu]; omega) h1
  simp only [Nat.add_zero] at this
  simp only [Instr.storeAt, Instr.sureAddr, storeVar, Sem.run_bind, Sem.run_pure, Result.andThen_ok, run_szT hs, hu, ne_eq, not_true_eq_false, Sem.run_ite, if_false, this, splice]

theorem run_storeS (hI : Inv g F lam σ a w) {t : TypeId} {p X : AV} {m' : Mem} {c : Prop} {pu u : Value} (h : storeS g.P t σ.m p X = some (m', c)) (hc : c) (hp : RV w F σ.m lam p pu) (hX : RV w F σ.m lam X u) :
    ∃ w', (Instr.storeAt t pu u).run g.P w = .ok () w' ∧ Nx g F lam σ.m w F lam m' w' := by
  unfold storeS at h
  split at h
  · rename_i k ver off
    split at h
    · rename_i ver' cells as s hm has hs
      split at h
      · rename_i hvl
        simp only [Option.some.injEq, Prod.mk.injEq] at h
        obtain ⟨rfl, rfl⟩ := h
        obtain ⟨rfl, hlen⟩ := hvl
        obtain ⟨_, _, hp⟩ := hp
        obtain ⟨b, hl, rfl⟩ := hp _ hm
        have he := hI.mem.ent k
        rw [hm] at he
        obtain ⟨b', cur, ty, hl', hg, hF, hh, hcells⟩ := he
        rw [hl] at hl'
        simp only [Option.some.injEq, Prod.mk.injEq, and_true] at hl'
        subst hl'
        have hR := atomsOf_RL has hX
        have hsz : u.cells.size = s := by have := hR.1; simp at this; omega
        have hcl : cells.length = cur.size := by have := hcells.1; simpa using this
        have h1 : ∀ x ∈ u.cells.toList, x.oneCell' = true := by
          intro x hx
          obtain ⟨j, hj⟩ := List.mem_iff_getElem?.1 hx
          have hj' : j < as.length := by rw [hR.1]; exact (List.getElem?_eq_some_iff.1 hj).1
          exact (hR.2 j _ x (List.getElem?_eq_getElem hj') hj).2
        refine ⟨_, run_storeVar hs hsz hg (by omega) h1, Nx.store hI (by rw [hm]; trivial) hl hg (by simp [splice_length, hsz]; rw [splice_length (by simp; omega)]; simp) hh ?_ ?_ (by simp) (by simp [hm, Ent.ver]) ?_⟩
        · rintro v s rows (h | h) <;> cases h
        · intro v cs' h; cases h; exact ⟨_, hm⟩
        · intro L
          refine ⟨b, _, ty, hl, setRow_heap w b cur _ ty _ hg, hF, hh, ?_⟩
          have := RL.splice (hcells.mono fun a u h => (⟨RA.le L h.1, h.2⟩ : RA _ F _ lam a u ∧ u.oneCell' = true)) (hR.mono fun a u h => (⟨RA.le L h.1, h.2⟩ : RA _ F _ lam a u ∧ u.oneCell' = true)) (o := off) (by omega)
          simpa using this
      · cases h
    · cases h
  · rename_i k ver sz i off
    split at h
    · rename_i ver' sz' rows us s hm hus hs
      split at h
      · rename_i hvl
        simp only [Option.some.injEq, Prod.mk.injEq] at h
        obtain ⟨rfl, rfl⟩ := h
        obtain ⟨rfl, rfl, hlen⟩ := hvl
        obtain ⟨_, _, hp⟩ := hp
        obtain ⟨_, hp⟩ := hp _ _ (.inl hm)
        have he := hI.mem.ent k
        rw [hm] at he
        obtain ⟨hw, he⟩ := he
        have hi := hc.1
        have hoff := hc.2
        have hne : rows ≠ [] := by rintro rfl; simp at hi
        obtain ⟨b, o, hl, rfl⟩ := hp.resolve_left hne
        obtain ⟨b', o', cur, ty, hl', hg, hF, hh, ho, hcur, h1⟩ := he.resolve_left (fun e => hne e.2)
        rw [hl] at hl'
        simp only [Option.some.injEq, Prod.mk.injEq] at hl'
        obtain ⟨rfl, rfl⟩ := hl'
        cases has : atomsOf X with
        | none => simp [has] at hus
        | some as =>
          simp only [has, Option.bind_some] at hus
          obtain ⟨huv, h1'⟩ := valsOf_RL hus (atomsOf_RL has hX)
          have hsz : u.cells.size = s := by rw [← hlen, ← huv]; simp
          have hfl := flatten_length hw
          have hin : (i + 1) * sz ≤ rows.length * sz := Nat.mul_le_mul_right _ hi
          rw [Nat.add_mul, Nat.one_mul] at hin
          have hcl : cur.toList.length = cur.size := by simp
          have hfit : o + rows.flatten.length ≤ cur.size := by
            have := congrArg List.length hcur
            rw [List.length_take, List.length_drop] at this
            omega
          refine ⟨_, run_storeVar (o := o + i * sz + off) hs hsz hg (by omega) (by rw [huv]; exact h1'), Nx.store hI (by rw [hm]; trivial) hl hg (by simp; rw [splice_length (by rw [huv]; simp; omega)]; simp) hh ?_ ?_ (by simp) (by simp [hm, Ent.ver]) ?_⟩
          · rintro v s' rows' (h | h) <;> cases h
            exact ⟨rows, .inl hm, by simp⟩
          · intro v cs' h; cases h
          · intro L
            have hfs := flatten_set hw hi (off := off) (us := us) (by omega)
            have hfsl : (rows.set i (splice (rows.getD i []) off us)).flatten.length = rows.flatten.length := by rw [hfs, splice_length (by omega)]
            refine ⟨hw.set hi (by omega), .inr ⟨b, o, _, ty, hl, setRow_heap w b cur _ ty _ hg, hF, hh, by simp; rw [splice_length (by rw [huv]; simp; omega)]; simpa using ho, ?_, ?_⟩⟩
            · rw [hfsl]
              simp only [huv]
              rw [Nat.add_assoc, splice_drop (by omega), splice_take (by omega) (by rw [List.length_drop]; omega), hcur, hfs]
            · intro x hx
              rw [hfs] at hx
              rcases mem_splice hx with h | h
              · exact h1 x h
              · exact h1' x h
      · cases h
    · cases h
  · cases h

end
end Go.Abs
