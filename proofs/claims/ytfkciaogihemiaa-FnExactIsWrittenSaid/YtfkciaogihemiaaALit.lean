/- What one operation does: literals of structs and slices, make. -/
import Derived.Test.YtfkciaogihemiaaANew
namespace Go.Abs
open Go.RowKit
set_option linter.unusedVariables false
set_option linter.unusedSimpArgs false

theorem foldl_splice (off : Nat) (l : List Value) (k : Nat) (cells : Array Value) (h : off + k + l.length ≤ cells.size) :
    ((l.zipIdx k).foldl (fun cs (p : Value × Nat) => cs.setIfInBounds (off + p.2) p.1) cells).toList = splice cells.toList (off + k) l := by
  induction l generalizing k cells with
  | nil => simp [splice]
  | cons x l ih =>
    simp only [List.length_cons] at h
    simp only [List.zipIdx_cons, List.foldl_cons]
    rw [ih (k + 1) _ (by simp; omega)]
    apply List.ext_getElem?
    intro j
    rw [splice_getElem? _ _ _ _ (by simp; omega), splice_getElem? _ _ _ _ (by simp; omega)]
    simp only [Array.toList_setIfInBounds, List.getElem?_set, Array.length_toList, List.length_cons]
    by_cases h1 : off + k + 1 ≤ j ∧ j < off + k + 1 + l.length
    · rw [if_pos (by omega), if_pos (by omega)]
      rw [show j - (off + k) = (j - (off + (k + 1))) + 1 by omega, List.getElem?_cons_succ]
    · rw [if_neg (by omega)]
      by_cases h2 : off + k = j
      · subst h2
        rw [if_pos rfl, if_pos (by omega), if_pos (by omega)]
        simp
      · rw [if_neg h2, if_neg (by omega)]

theorem fill_cons {place : Nat → Option (Nat × Nat)} {cells : Array Value} {i off size : Nat} {v : Value} {rest : List (Nat × Value)} (hp : place i = some (off, size)) (hs : v.cells.size = size) (ho : off + size ≤ cells.size) :
    Instr.fill place cells ((i, v) :: rest) = Instr.fill place (splice cells.toList off v.cells.toList).toArray rest := by
  simp only [Instr.fill, hp]
  rw [if_neg (by simp [hs]; omega)]
  congr 1
  apply Array.ext'
  have := foldl_splice off v.cells.toList 0 cells (by simp; omega)
  simp only [Nat.add_zero] at this
  rw [← this, ← Array.foldl_toList, Array.toList_zipIdx]

section
variable {g : G} {F : Nat → Prop} {lam : Lam} {σ : St} {a : Act} {w : World}

theorem fillRows_ok (hI : Inv g F lam σ a w) {sz len : Nat} {parts : List (Nat × Operand)} {rows rows' : List (List Value)} (h : fillRows σ sz parts rows = some rows') (hw : Wf sz rows)
    (h1 : ∀ u ∈ rows.flatten, u.oneCell' = true) :
    (∃ cs, Instr.fill (fun i => some (i * sz, sz)) rows.flatten.toArray (parts.map fun p => (p.1, a.eval p.2)) = some cs ∧ cs.toList = rows'.flatten) ∧ Wf sz rows' ∧ rows'.length = rows.length ∧ ∀ u ∈ rows'.flatten, u.oneCell' = true := by
  induction parts generalizing rows with
  | nil =>
    simp only [fillRows, Option.some.injEq] at h; subst h
    exact ⟨⟨_, rfl, by simp⟩, hw, rfl, h1⟩
  | cons p parts ih =>
    obtain ⟨i, x⟩ := p
    simp only [fillRows] at h
    split at h
    · rename_i us hus
      split at h
      · rename_i hc
        obtain ⟨hlen, hi⟩ := hc
        cases has : atomsOf (σ.ev x) with
        | none => simp [has] at hus
        | some as =>
          simp only [has, Option.bind_some] at hus
          obtain ⟨huv, h1'⟩ := valsOf_RL hus (atomsOf_RL has (hI.ev x))
          have hrow := row_at hw hi
          have hset : rows.set i us = rows.set i (splice (rows.getD i []) 0 us) := by rw [splice_all (by omega)]
          rw [hset] at h
          have hfs := flatten_set hw hi (off := 0) (us := us) (by omega)
          simp only [Nat.add_zero] at hfs
          have hfl := flatten_length hw
          have hin : (i + 1) * sz ≤ rows.length * sz := Nat.mul_le_mul_right _ hi
          rw [Nat.add_mul, Nat.one_mul] at hin
          have h2 : ∀ u ∈ (rows.set i (splice (rows.getD i []) 0 us)).flatten, u.oneCell' = true := by
            intro u hu
            rw [hfs] at hu
            rcases mem_splice hu with h | h
            · exact h1 u h
            · exact h1' u h
          obtain ⟨⟨cs, hf, hcs⟩, hw', hl', ho'⟩ := ih h (hw.set hi (by omega)) h2
          refine ⟨⟨cs, ?_, hcs⟩, hw', by simpa using hl', ho'⟩
          simp only [List.map_cons]
          rw [fill_cons (off := i * sz) (size := sz) rfl (by rw [← hlen, ← huv]; simp) (by rw [List.size_toArray]; omega)]
          rw [← hf, huv, ← hfs]
      · cases h
    · cases h

theorem replicate_cells (z : List Value) (n : Nat) : (List.replicate n z).flatten = ((List.range (n * z.length)).map fun i => z.getD (i % z.length) undef) := by
  induction n with
  | zero => simp
  | succ n ih =>
    rw [List.replicate_succ', List.flatten_append, ih, Nat.add_mul, Nat.one_mul, List.range_add, List.map_append]
    congr 1
    simp only [List.flatten_cons, List.flatten_nil, List.append_nil, List.map_map]
    apply List.ext_getElem?
    intro j
    simp only [List.getElem?_map, Function.comp]
    by_cases hj : j < z.length
    · simp [hj, Nat.mod_eq_of_lt hj, List.getD]
    · simp [hj, List.getElem?_eq_none (Nat.le_of_not_lt hj)]

theorem zero_cells (z : Array Value) (n sz : Nat) (hz : z.size = sz) (h0 : 0 < sz) : ((Array.range (n * sz)).map (z[· % z.size]!)).toList = (List.replicate n z.toList).flatten := by
  rw [replicate_cells]
  simp only [Array.toList_map, Array.toList_range, Array.length_toList, hz]
  apply List.map_congr_left
  intro i hi
  have : i % sz < sz := Nat.mod_lt _ h0
  simp [List.getD, hz, this, getElem!_pos]

theorem Wf_replicate {sz : Nat} {z : List Value} (h : z.length = sz) (n : Nat) : Wf sz (List.replicate n z) := by
  intro r hr; rw [List.eq_of_mem_replicate hr, h]

theorem mem_replicate_flatten {z : List Value} {n : Nat} {u : Value} (h : u ∈ (List.replicate n z).flatten) : u ∈ z := by
  rw [List.mem_flatten] at h
  obtain ⟨l, hl, hu⟩ := h
  rw [List.eq_of_mem_replicate hl] at hu
  exact hu

theorem good_buildSlice (hI : Inv g F lam σ a w) {t e : TypeId} {len sz κ : Nat} {parts : Array (Nat × Operand)} {z : List Value} {rows : List (List Value)} (ht : g.P.underlying t = some (.slice e))
    (hg : σ.m κ = .gone) (hk : g.nx ≤ κ) (hs : szT g.P e = some (sz + 1)) (hz : zeroVals g.P e = some z) (hzl : z.length = sz + 1) (hz1 : z.all (·.oneCell') = true) (hlen : len * (sz + 1) ≤ 16777216)
    (h : fillRows σ (sz + 1) parts.toList (List.replicate len z) = some rows) :
    ∃ u w' F' lam', (Instr.buildSlice t len (parts.map fun (i, x) => (i, a.eval x))).run g.P w = .ok u w' ∧ Nx g F lam σ.m w F' lam' (upd σ.m κ (.arr 0 (sz + 1) rows)) w' ∧
      RV w' F' (upd σ.m κ (.arr 0 (sz + 1) rows)) lam' (.at (.ow κ 0 (sz + 1) len)) u := by
  obtain ⟨i, zv, hi, hiz, rfl⟩ := info_zeroVals hz
  obtain ⟨⟨cs, hf, hcs⟩, hw, hl, h1⟩ := fillRows_ok (len := len) hI h (Wf_replicate hzl _) (fun u hu => by
    rw [List.all_eq_true] at hz1
    exact hz1 _ (mem_replicate_flatten hu))
  have hl' : rows.length = len := by simpa using hl
  have hcl : cs.size = len * (sz + 1) := by rw [← Array.length_toList, hcs, flatten_length hw, hl']
  have hzs : zv.cells.size = sz + 1 := by simpa using hzl
  have hf0 : Instr.fill (fun i => some (i * (sz + 1), sz + 1)) ((Array.range (len * (sz + 1))).map (zv.cells[· % zv.cells.size]!)) (parts.map fun (i, x) => (i, a.eval x)).toList = some cs := by
    rw [← hf]
    congr 1
    · apply Array.ext'
      rw [zero_cells zv.cells len (sz + 1) hzs (by omega)]
    · simp
  have hrun : (Instr.buildSlice t len (parts.map fun (i, x) => (i, a.eval x))).run g.P w = .ok (.slice (some ⟨w.heap.size, 0, none⟩) rows.length len) (w.alloc (.cells cs e)) := by
    simp only [Instr.buildSlice, Sem.run_bind, run_underlying ht, Result.andThen_ok, run_szT hs]
    rw [if_neg (by omega)]
    by_cases h0 : len = 0
    · subst h0
      have hr0 : Array.range 0 = #[] := rfl
      simp only [Nat.zero_mul, hr0, Array.map_empty] at hf0 ⊢
      simp only [if_true, Sem.run_pure, Sem.run_bind, Result.andThen_ok, Array.map_empty]
      rw [hf0]
      simp [newRow, hl']
    · rw [if_neg (by have : 0 < len * (sz + 1) := Nat.mul_pos (by omega) (by omega); omega)]
      simp only [zeroValue, typeInfo, Sem.run_bind, run_program, hi, hiz, Sem.run_pure, Result.andThen_ok]
      rw [hf0]
      simp [newRow, hl']
  have := good_arr hI (w' := w.alloc (.cells cs e)) hg hk (cap := len) hw h1 (by rw [hcs, List.take_length]) (by rw [hcl]; exact Nat.le_refl _) (by omega) (by simp only [maxLen]; have : len ≤ len * (sz + 1) := Nat.le_mul_of_pos_right _ (by omega); omega) (Pushed.alloc w _) hrun
  rw [hl'] at this
  exact this

end
end Go.Abs
