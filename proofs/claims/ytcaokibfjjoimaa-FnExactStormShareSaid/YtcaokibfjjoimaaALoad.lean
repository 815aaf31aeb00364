/- What one operation does: loads, addresses, parts. -/
import Derived.Test.YtcaokibfjjoimaaAScal
namespace Go.Abs
open Go.RowKit
set_option linter.unusedVariables false
set_option linter.unusedSimpArgs false

section
variable {P : Program} {w : World} {F : Nat → Prop} {m : Mem} {lam : Lam}

theorem run_isAgg {t : TypeId} {b : Bool} (h : aggT P t = some b) : (isAgg t).run P w = .ok b w := by
  unfold aggT at h
  unfold isAgg
  split at h
  · rename_i hu; simp only [Option.some.injEq] at h; subst h; simp [run_underlying hu]
  · rename_i hu; simp only [Option.some.injEq] at h; subst h; simp [run_underlying hu]
  · rename_i d hn1 hn2 hu
    simp only [Option.some.injEq] at h; subst h
    simp only [Sem.run_bind, run_underlying hu, Result.andThen_ok]
    rfl
  · cases h

theorem run_szT {t : TypeId} {s : Nat} (h : szT P t = some s) : (sizeOf t).run P w = .ok s w := by
  unfold szT at h
  cases hi : P.info? t with
  | none => simp [hi] at h
  | some i => simp [hi] at h; subst h; simp [sizeOf, typeInfo, hi]

theorem info_szT {t : TypeId} {s : Nat} (h : szT P t = some s) : ∃ i, P.info? t = some i ∧ i.size = s := by
  unfold szT at h
  cases hi : P.info? t with
  | none => simp [hi] at h
  | some i => exact ⟨i, rfl, by simpa [hi] using h⟩

theorem run_load_one {t : TypeId} {p : Addr} {v : Value} (h : aggT P t = some false) (hv : w.cell? p = some v) : (Instr.loadAt t (.pointer (some p))).run P w = .ok v w := by
  simp only [Instr.loadAt, Instr.sureAddr, Sem.run_bind, Sem.run_pure, Result.andThen_ok, loadVar, run_isAgg h, Sem.run_ite, Bool.false_eq_true, if_false]
  rw [run_load]
  simp [hv]

theorem run_load_agg {t : TypeId} {b o s : Nat} {cs : List Value} (h : aggT P t = some true) (hs : szT P t = some s) (hl : cs.length = s) (hc : ∀ j v, cs[j]? = some v → w.cell? ⟨b, o + j, none⟩ = some v) :
    (Instr.loadAt t (.pointer (some ⟨b, o, none⟩))).run P w = .ok (.agg cs.toArray) w := by
  have := run_loadCells_list (P := P) w ⟨b, o, none⟩ cs (fun j v hj => by rw [Addr.add_lit]; exact hc j v hj)
  rw [hl] at this
  simp only [Instr.loadAt, Instr.sureAddr, Sem.run_bind, Sem.run_pure, Result.andThen_ok, loadVar, run_isAgg h, Sem.run_ite, if_true, run_szT hs, this]

/-- Rows laid end to end. -/
theorem flatten_length {sz : Nat} {rows : List (List Value)} (h : Wf sz rows) : rows.flatten.length = rows.length * sz := by
  induction rows with
  | nil => simp
  | cons r rows ih =>
    have h1 : r.length = sz := h r (by simp)
    have := ih (fun r' hr => h r' (by simp [hr]))
    simp only [List.flatten_cons, List.length_append, List.length_cons, this, h1, Nat.add_mul, Nat.one_mul]
    omega

theorem flatten_drop {sz : Nat} {rows : List (List Value)} (h : Wf sz rows) (k : Nat) : (rows.drop k).flatten = rows.flatten.drop (k * sz) := by
  induction rows generalizing k with
  | nil => simp
  | cons r rows ih =>
    have h1 : r.length = sz := h r (by simp)
    have h2 : Wf sz rows := fun r' hr => h r' (by simp [hr])
    cases k with
    | zero => simp
    | succ k =>
      simp only [List.drop_succ_cons, ih h2, List.flatten_cons]
      rw [List.drop_append]
      have : r.drop ((k + 1) * sz) = [] := List.drop_eq_nil_of_le (by rw [h1, Nat.add_mul]; omega)
      rw [this, List.nil_append, h1]
      congr 1
      rw [Nat.add_mul]; omega

theorem flatten_take {sz : Nat} {rows : List (List Value)} (h : Wf sz rows) (k : Nat) : (rows.take k).flatten = rows.flatten.take (k * sz) := by
  induction rows generalizing k with
  | nil => simp
  | cons r rows ih =>
    have h1 : r.length = sz := h r (by simp)
    have h2 : Wf sz rows := fun r' hr => h r' (by simp [hr])
    cases k with
    | zero => simp
    | succ k =>
      simp only [List.take_succ_cons, ih h2, List.flatten_cons]
      rw [List.take_append]
      have e1 : r.take ((k + 1) * sz) = r := List.take_of_length_le (by rw [h1, Nat.add_mul]; omega)
      have e2 : (k + 1) * sz - r.length = k * sz := by rw [h1, Nat.add_mul]; omega
      rw [e1, e2]

theorem Wf.drop {sz : Nat} {rows : List (List Value)} (h : Wf sz rows) (k : Nat) : Wf sz (rows.drop k) := fun r hr => h r (List.mem_of_mem_drop hr)
theorem Wf.take {sz : Nat} {rows : List (List Value)} (h : Wf sz rows) (k : Nat) : Wf sz (rows.take k) := fun r hr => h r (List.mem_of_mem_take hr)

theorem row_at {sz i : Nat} {rows : List (List Value)} (h : Wf sz rows) (hi : i < rows.length) : (rows.getD i []).length = sz ∧ rows.getD i [] = (rows.flatten.drop (i * sz)).take sz := by
  have hg : rows.getD i [] = rows[i] := by simp [List.getD, List.getElem?_eq_getElem hi]
  have h1 : (rows[i]).length = sz := h _ (List.getElem_mem hi)
  refine ⟨by rw [hg]; exact h1, ?_⟩
  rw [← flatten_drop h, List.drop_eq_getElem_cons hi, List.flatten_cons, ← h1, List.take_append, List.take_length, Nat.sub_self, List.take_zero, List.append_nil, hg]

theorem RowsAt.row {b o sz i : Nat} {rows : List (List Value)} (h : RowsAt w b o rows.flatten) (hw : Wf sz rows) (hi : i < rows.length) : RowsAt w b (o + i * sz) (rows.getD i []) := by
  intro j u hj
  rw [(row_at hw hi).2, List.getElem?_take] at hj
  split at hj
  · rw [List.getElem?_drop] at hj
    have := h _ _ hj
    rw [show o + i * sz + j = o + (i * sz + j) by omega]
    exact this
  · cases hj

theorem RowsAt.drop {b o : Nat} {cs : List Value} (h : RowsAt w b o cs) (k : Nat) : RowsAt w b (o + k) (cs.drop k) := by
  intro j u hj
  rw [List.getElem?_drop] at hj
  rw [Nat.add_assoc]
  exact h _ _ hj

theorem RowsAt.take {b o : Nat} {cs : List Value} (h : RowsAt w b o cs) (k : Nat) : RowsAt w b o (cs.take k) := by
  intro j u hj
  rw [List.getElem?_take] at hj
  split at hj
  · exact h _ _ hj
  · cases hj

/-- The cells of an array of our own. -/
theorem cells_of_arr {b o : Nat} {cur : Array Value} {ty : TypeId} {fr : Nat × Nat} {cs : List Value} (hg : w.heap[b]? = some (.cells cur ty fr)) (h : (cur.toList.drop o).take cs.length = cs) (h1 : ∀ u ∈ cs, u.oneCell' = true) : RowsAt w b o cs := by
  intro j u hj
  refine ⟨?_, h1 u (List.mem_of_getElem? hj)⟩
  rw [cell_of_row w b (o + j) cur ty fr hg]
  rw [← h, List.getElem?_take] at hj
  split at hj
  · rw [List.getElem?_drop, Array.getElem?_toList] at hj
    exact hj
  · cases hj

theorem RL_vals {R : A → Value → Prop} {cs : List Value} (h : ∀ u ∈ cs, R (.v u) u) : RL R (cs.map .v) cs := by
  refine ⟨by simp, fun i a u ha hu => ?_⟩
  simp only [List.getElem?_map, hu, Option.map_some, Option.some.injEq] at ha
  subst ha
  exact h u (List.mem_of_getElem? hu)

theorem RL.drop {R : A → Value → Prop} {as : List A} {us : List Value} (h : RL R as us) (k : Nat) : RL R (as.drop k) (us.drop k) := by
  refine ⟨by simp [h.1], fun i a u ha hu => ?_⟩
  rw [List.getElem?_drop] at ha hu
  exact h.2 _ _ _ ha hu

theorem RL.take {R : A → Value → Prop} {as : List A} {us : List Value} (h : RL R as us) (k : Nat) : RL R (as.take k) (us.take k) := by
  refine ⟨by simp [h.1], fun i a u ha hu => ?_⟩
  rw [List.getElem?_take] at ha hu
  split at ha
  · rename_i hk; rw [if_pos hk] at hu; exact h.2 _ _ _ ha hu
  · cases ha

theorem RL.at {R : A → Value → Prop} {as : List A} {us : List Value} (h : RL R as us) {i : Nat} {a : A} (ha : as[i]? = some a) : ∃ u, us[i]? = some u ∧ R a u := by
  have hl := h.1
  have := (List.getElem?_eq_some_iff.1 ha).1
  have hu : us[i]? = some (us[i]'(by omega)) := List.getElem?_eq_getElem _
  exact ⟨_, hu, h.2 _ _ _ ha hu⟩

end

section
variable {g : G} {F : Nat → Prop} {lam : Lam} {σ : St} {a : Act} {w : World}

/-- Reads of an array's element, of our own or read only. -/
theorem loadS_cells {t : TypeId} {b o : Nat} {cs : List Value} (hr : RowsAt w b o cs) {X : AV} {c : Prop}
    (h : (match aggT g.P t, szT g.P t with
      | some true, some s => some (AV.ag ((cs.take s).map .v), s ≤ cs.length)
      | some false, _ => some (AV.at (.v (cs.getD 0 undef)), 0 < cs.length)
      | _, _ => none) = some (X, c)) (hc : c) (m : Mem) : ∃ v, (Instr.loadAt t (.pointer (some ⟨b, o, none⟩))).run g.P w = .ok v w ∧ RV w F m lam X v := by
  split at h
  · rename_i s h1 h2
    simp only [Option.some.injEq, Prod.mk.injEq] at h
    obtain ⟨rfl, rfl⟩ := h
    refine ⟨.agg (cs.take s).toArray, run_load_agg h1 h2 (by simp; omega) (fun j v hj => (hr.take s j v hj).1), ?_⟩
    exact ⟨_, rfl, RL_vals fun u hu => by
      obtain ⟨j, hj⟩ := List.mem_iff_getElem?.1 hu
      have := (hr.take s j u hj).2
      exact ⟨⟨rfl, this⟩, this⟩⟩
  · rename_i h1
    simp only [Option.some.injEq, Prod.mk.injEq] at h
    obtain ⟨rfl, rfl⟩ := h
    have h0 : cs[0]? = some (cs.getD 0 undef) := by simp [List.getD, List.getElem?_eq_getElem hc]
    have := hr 0 _ h0
    exact ⟨_, run_load_one h1 this.1, rfl, this.2⟩
  · cases h

theorem run_loadS (hI : Inv g F lam σ a w) {t : TypeId} {p : AV} {X : AV} {c : Prop} {u : Value} (h : loadS g.P t σ.m p = some (X, c)) (hc : c) (hp : RV w F σ.m lam p u) :
    ∃ v, (Instr.loadAt t u).run g.P w = .ok v w ∧ RV w F σ.m lam X v := by
  unfold loadS at h
  split at h
  · rename_i k ver off
    split at h
    · rename_i ver' cells hm
      split at h
      · rename_i hv; subst hv
        obtain ⟨_, _, hp⟩ := hp
        obtain ⟨b, hl, rfl⟩ := hp _ hm
        have he := hI.mem.ent k
        rw [hm] at he
        obtain ⟨b', cur, ty, hl', hg, _, _, hcells⟩ := he
        rw [hl] at hl'
        simp only [Option.some.injEq, Prod.mk.injEq, and_true] at hl'
        subst hl'
        split at h
        · rename_i s h1 h2
          simp only [Option.some.injEq, Prod.mk.injEq] at h
          obtain ⟨rfl, rfl⟩ := h
          have hR := (hcells.drop off).take s
          refine ⟨.agg ((cur.toList.drop off).take s).toArray, run_load_agg h1 h2 ?_ ?_, _, rfl, hR⟩
          · rw [← hR.1]; simp; omega
          · intro j v hj
            rw [cell_of_row w b _ cur ty _ hg]
            rw [List.getElem?_take] at hj
            split at hj
            · rw [List.getElem?_drop, Array.getElem?_toList] at hj; exact hj
            · cases hj
        · rename_i h1
          split at h
          · rename_i A0 hA
            simp only [Option.some.injEq, Prod.mk.injEq] at h
            obtain ⟨rfl, rfl⟩ := h
            obtain ⟨v, hv, hR⟩ := hcells.at hA
            refine ⟨v, run_load_one h1 ?_, hR.1⟩
            rw [cell_of_row w b _ cur ty _ hg]
            rwa [Array.getElem?_toList] at hv
          · cases h
        · cases h
      · cases h
    · cases h
  · rename_i k ver sz i off
    have key : ∀ ver' sz' rows, (σ.m k = .arr ver' sz' rows ∨ σ.m k = .ice ver' sz' rows) → ver = ver' → sz = sz' → i < rows.length → ∃ b o, u = .pointer (some ⟨b, o + i * sz + off, none⟩) ∧ RowsAt w b (o + i * sz) (rows.getD i []) ∧ (rows.getD i []).length = sz := by
      intro ver' sz' rows hm hv hs hi
      subst hv; subst hs
      obtain ⟨_, _, hp⟩ := hp
      obtain ⟨_, hp⟩ := hp _ _ hm
      rcases hp with rfl | ⟨b, o, hl, rfl⟩
      · simp at hi
      · refine ⟨b, o, rfl, ?_⟩
        have he := hI.mem.ent k
        rcases hm with hm | hm <;> rw [hm] at he
        · obtain ⟨hw, he⟩ := he
          rcases he with ⟨_, rfl⟩ | ⟨b', o', cur, ty, hl', hg, _, _, _, hcur, h1⟩
          · simp at hi
          · rw [hl] at hl'
            simp only [Option.some.injEq, Prod.mk.injEq] at hl'
            obtain ⟨rfl, rfl⟩ := hl'
            exact ⟨(cells_of_arr hg hcur h1).row hw hi, (row_at hw hi).1⟩
        · obtain ⟨hw, he⟩ := he
          rcases he with ⟨_, rfl⟩ | ⟨b', o', hl', _, hr⟩
          · simp at hi
          · rw [hl] at hl'
            simp only [Option.some.injEq, Prod.mk.injEq] at hl'
            obtain ⟨rfl, rfl⟩ := hl'
            exact ⟨hr.row hw hi, (row_at hw hi).1⟩
    have fin : ∀ ver' sz' rows, (σ.m k = .arr ver' sz' rows ∨ σ.m k = .ice ver' sz' rows) → (if ver = ver' ∧ sz = sz' then
        match aggT g.P t, szT g.P t with
        | some true, some s => some (AV.ag (((((rows.getD i []).drop off).take s)).map .v), i < rows.length ∧ off + s ≤ sz)
        | some false, _ => some (AV.at (.v ((rows.getD i []).getD off undef)), i < rows.length ∧ off < sz)
        | _, _ => none
      else none) = some (X, c) → ∃ v, (Instr.loadAt t u).run g.P w = .ok v w ∧ RV w F σ.m lam X v := by
      intro ver' sz' rows hm h
      split at h
      · rename_i hvs
        split at h
        · rename_i s h1 h2
          simp only [Option.some.injEq, Prod.mk.injEq] at h
          obtain ⟨rfl, rfl⟩ := h
          obtain ⟨b, o, rfl, hr, hlen⟩ := key ver' sz' rows hm hvs.1 hvs.2 hc.1
          refine loadS_cells (hr.drop off) (X := .ag ((((rows.getD i []).drop off).take s).map .v)) (c := s ≤ ((rows.getD i []).drop off).length) (by rw [h1, h2]) ?_ σ.m
          rw [List.length_drop, hlen]; have := hc.2; omega
        · rename_i h1
          simp only [Option.some.injEq, Prod.mk.injEq] at h
          obtain ⟨rfl, rfl⟩ := h
          obtain ⟨b, o, rfl, hr, hlen⟩ := key ver' sz' rows hm hvs.1 hvs.2 hc.1
          have := loadS_cells (g := g) (F := F) (lam := lam) (t := t) (hr.drop off) (X := .at (.v (((rows.getD i []).drop off).getD 0 undef))) (c := 0 < ((rows.getD i []).drop off).length) (by rw [h1]) (by rw [List.length_drop, hlen]; have := hc.2; omega) σ.m
          simpa [List.getD] using this
        · cases h
      · cases h
    split at h
    · rename_i ver' sz' rows hm
      exact fin ver' sz' rows (.inl hm) h
    · rename_i ver' sz' rows hm
      exact fin ver' sz' rows (.inr hm) h
    · cases h
  · rename_i cs
    obtain ⟨b, o, rfl, _, hr⟩ := hp
    exact loadS_cells hr h hc σ.m
  · cases h

end
end Go.Abs
