/- slices.Compact of ints, of an array of one's own. -/
import Derived.Test.YtmiajpljlkdhcaaGreatDoorAData
import Derived.Test.YtmiajpljlkdhcaaGreatDoorALibC
import Derived.Shelf.Slices.CompactI
namespace Go.Abs
open Go.RowKit Go.Proofs Go.Shelf
set_option linter.unusedVariables false
set_option linter.unusedSimpArgs false

theorem compact_length (zs : List Int) : (Lib.compact zs).length ≤ zs.length := by
  have := List.length_filter_le (Lib.keeps zs.toArray) (List.range zs.length)
  simpa [Lib.compact, Lib.compactUpTo] using this
theorem ints_flatten (zs : List Int) : (zs.map intRow).flatten = zs.map (Value.int .i64) := by
  induction zs with
  | nil => rfl
  | cons x l ih => simp only [List.map_cons, List.flatten_cons, ih]; rfl
theorem ints_wf (zs : List Int) : Wf 1 (zs.map intRow) := by
  intro r hr
  obtain ⟨x, _, rfl⟩ := List.mem_map.1 hr
  rfl
theorem heap_putRow {w : World} {b o : Nat} {d : Array Int} {cur : Array Value} {ty : TypeId} {fr : Nat × Nat} (h : w.heap[b]? = some (.cells cur ty fr)) :
    (Sort.putRow (Value.int .i64) w b o d).heap[b]? = some (.cells (Sort.putCells (Value.int .i64) o d cur) ty fr) := by
  simp only [Sort.putRow, Sort.mapBlock, Array.getElem?_modify, if_true, h, Option.map_some, Sort.onCells]
theorem heap_putRow_ne {w : World} {b b' o : Nat} {d : Array Int} (h : b' ≠ b) : (Sort.putRow (Value.int .i64) w b o d).heap[b']? = w.heap[b']? := by
  simp only [Sort.putRow, Sort.mapBlock, Array.getElem?_modify, if_neg (Ne.symm h)]

theorem gen_compact {P : Program} {ρ : Ren} (L : Lays2.n20 P ρ) {nx : Nat} {m : Mem} {k ver : Nat} {zs : List Int} (hm : m k = .arr ver 1 (zs.map intRow)) (hk : nx ≤ k) (hl : zs.length ≤ maxLen) :
    GenStp P nx m (ρ.f 20) [.at (.ow k ver 1 zs.length)] (upd m k (.arr (ver + 1) 1 ((Lib.compact zs).map intRow))) (.at (.ow k (ver + 1) 1 (Lib.compact zs).length)) := by
  refine ⟨⟨_, L.f20, by rfl, by rfl⟩, ?_⟩
  rintro g F lam σ a w us rfl rfl rfl hI hlen hus
  obtain ⟨u, rfl⟩ : ∃ u, us = [u] := by
    match us, hlen with
    | [u], _ => exact ⟨u, rfl⟩
  have hu := hus 0 _ u rfl rfl
  obtain ⟨_, _, hX⟩ := hu
  obtain ⟨_, _, hX⟩ := hX 1 _ (.inl hm)
  have he := hI.mem.ent k
  rw [hm] at he
  obtain ⟨hw, he⟩ := he
  have hcl := compact_length zs
  rcases hX with ⟨hlk, rfl⟩ | ⟨b, o, cap, hlk, rfl, hcap, hcm, hbs⟩
  · have hr0 : zs = [] := by
      rcases he with ⟨_, h⟩ | ⟨b, o, cur, ty, h, _⟩
      · simpa using h
      · rw [hlk] at h; cases h
    subst hr0
    refine (Any.slices_Compact_int_empty L none 0 w).mono ?_
    rintro e w' ⟨rfl, rfl⟩
    refine ⟨_, F, upd lam k none, rfl, Nx.bump hI hm hk (fun _ _ => rfl) (fun _ => Nat.le_refl _) (fun _ _ _ _ _ _ => rfl) (Nat.le_refl _) hI.chg (fun _ _ _ _ _ _ _ h => by cases h) ?_, ?_⟩
    · exact ⟨(by intro r hr; cases hr), .inl ⟨upd_same _ _ _, rfl⟩⟩
    · refine ⟨by rw [upd_same]; simp [Ent.ver], .inl ⟨rfl, rfl⟩, fun s' r' h' => ?_⟩
      rw [upd_same] at h'
      simp only [Ent.arr.injEq, true_and, reduceCtorEq, or_false] at h'
      obtain ⟨rfl, rfl⟩ := h'
      exact ⟨rfl, rfl, .inl ⟨upd_same _ _ _, rfl⟩⟩
  · rcases he with ⟨h', _⟩ | ⟨b', o', cur, ty, hlk', hgb, hF, hh', ho, hcur, h1⟩
    · rw [hlk] at h'; cases h'
    rw [hlk] at hlk'
    simp only [Option.some.injEq, Prod.mk.injEq] at hlk'
    obtain ⟨rfl, rfl⟩ := hlk'
    rw [bsize_eq hgb] at hbs
    rw [ints_flatten] at hcur
    have hcell : ∀ j, j < zs.length → cur[o + j]? = some (Value.int .i64 zs.toArray[j]!) := by
      intro j hj
      have := congrArg (fun l : List Value => l[j]?) hcur
      simp only [List.getElem?_take, List.length_map, hj, if_true, List.getElem?_drop, List.getElem?_map, Array.getElem?_toList] at this
      rw [this]
      simp [hj]
    have hH : Sort.Holds (Value.int .i64) w b o zs.toArray := by
      intro j hj
      refine ⟨?_, ?_⟩
      · simp only [World.cell?, hgb]
        exact hcell j (by simpa using hj)
      · simp only [World.frozen?, hgb]
        simp
    refine (Any.slices_Compact_int L b o cap zs w hH (by unfold maxLen at hl; omega) (by omega)).mono ?_
    rintro e w' ⟨rfl, q, rfl⟩
    have hg1 : (Sort.ahead w q).heap[b]? = some (.cells cur ty (0, 0)) := hgb
    have hg2 := heap_putRow (o := o) (d := (Lib.compact zs ++ List.replicate (zs.length - (Lib.compact zs).length) 0).toArray) hg1
    have hne : ∀ b', b' ≠ b → (Sort.putRow (Value.int .i64) (Sort.ahead w q) b o (Lib.compact zs ++ List.replicate (zs.length - (Lib.compact zs).length) 0).toArray).heap[b']? = w.heap[b']? := fun b' h => heap_putRow_ne h
    have hsz : (Sort.putRow (Value.int .i64) (Sort.ahead w q) b o (Lib.compact zs ++ List.replicate (zs.length - (Lib.compact zs).length) 0).toArray).heap.size = w.heap.size := Sort.size_putRow _ _ _ _ _
    have hbsz : ∀ b', bsize w b' ≤ bsize (Sort.putRow (Value.int .i64) (Sort.ahead w q) b o (Lib.compact zs ++ List.replicate (zs.length - (Lib.compact zs).length) 0).toArray) b' := by
      intro b'
      by_cases hbb : b' = b
      · subst hbb; rw [bsize_eq hgb, bsize_eq hg2]; simp [Sort.putCells]
      · unfold bsize; rw [hne b' hbb]; exact Nat.le_refl _
    refine ⟨_, F, upd lam k (some (b, o)), rfl, Nx.bump hI hm hk (fun b' hb' => hne b' fun e => hF (e ▸ hb')) hbsz (fun k' b' o' hnk hl' hlk' => hne b' fun e => ?_) (by rw [hsz]; exact Nat.le_refl _) ?_ ?_ ?_, ?_⟩
    · subst e
      exact hnk (hI.mem.inj _ _ _ _ _ hl' (by rw [hm]; trivial) hlk' hlk)
    · refine ⟨hI.chg.os, hI.chg.tape, hI.chg.output, by rw [hsz]; exact hI.chg.size, fun b' hb' hx => ?_, fun b' => Nat.le_trans (hI.chg.bs b') (hbsz b')⟩
      rw [hne b' ?_]
      · exact hI.chg.block b' hb' hx
      · rintro rfl
        have := hh'.2 hk
        omega
    · rintro k' b' o1 o2 hnk hl' hlk' h
      simp only [Option.some.injEq, Prod.mk.injEq] at h
      obtain ⟨rfl, rfl⟩ := h
      exact hnk (hI.mem.inj _ _ _ _ _ hl' (by rw [hm]; trivial) hlk' hlk)
    · refine ⟨ints_wf _, .inr ⟨b, o, _, ty, upd_same _ _ _, hg2, hF, hh', by simp [Sort.putCells]; omega, ?_, ?_⟩⟩
      · rw [ints_flatten]
        apply List.ext_getElem?
        intro j
        simp only [List.getElem?_take, List.length_map, List.getElem?_drop, List.getElem?_map, Array.getElem?_toList]
        by_cases hj : j < (Lib.compact zs).length
        · have hc := hcell j (by omega)
          rw [if_pos hj]
          simp only [Sort.putCells, Array.getElem?_mapIdx, hc, Option.map_some]
          rw [if_pos (by simp; omega), show o + j - o = j by omega]
          rw [List.getElem?_eq_getElem hj]
          simp [hj, List.getElem?_append_left hj]
        · rw [if_neg hj, List.getElem?_eq_none (by omega)]; rfl
      · rw [ints_flatten]
        intro u hu
        obtain ⟨x, _, rfl⟩ := List.mem_map.1 hu
        rfl
    · refine ⟨by rw [upd_same]; simp [Ent.ver], .inr ⟨_, _, _, rfl, by omega⟩, fun s' r' h' => ?_⟩
      rw [upd_same] at h'
      simp only [Ent.arr.injEq, true_and, reduceCtorEq, or_false] at h'
      obtain ⟨rfl, rfl⟩ := h'
      exact ⟨rfl, by simp, .inr ⟨b, o, cap, upd_same _ _ _, rfl, by omega, hcm, by rw [Nat.mul_one] at hbs ⊢; exact Nat.le_trans (by rw [bsize_eq hgb]; exact hbs) (hbsz b)⟩⟩
end Go.Abs
