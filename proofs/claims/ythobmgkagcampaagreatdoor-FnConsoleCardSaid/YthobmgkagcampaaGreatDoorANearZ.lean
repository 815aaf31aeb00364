/- The cells next to a cell, and the steps from cells to all cells: what they are, told without the program. -/
import Derived.Test.YthobmgkagcampaaGreatDoorAData
import Derived.Test.YthobmgkagcampaaGreatDoorALibC
import Derived.Shelf.Slices.CompactI
import Derived.Test.YthobmgkagcampaaGreatDoorALand
namespace Go.Abs
open Go.RowKit Go.Proofs Go.Shelf
set_option linter.all false
theorem compact_length (zs : List Int) : (Lib.compact zs).length <= zs.length := by
 have := List.length_filter_le (Lib.keeps zs.toArray) (List.range zs.length)
 simpa [Lib.compact, Lib.compactUpTo] using this
theorem ints_flatten (zs : List Int) : (zs.map intRow).flatten = zs.map (Value.int .i64) := by
 induction zs with
 | nil => rfl
 | cons x l ih => simp only [List.map_cons, List.flatten_cons, ih]; rfl
theorem ints_wf (zs : List Int) : Wf 1 (zs.map intRow) := by
 intro r hr
 obtain ⟨x, _, rfl⟩ := List.mem_map.1 hr
 rfl
theorem heap_putRow {w : World} {b o : Nat} {d : Array Int} {cur : Array Value} {ty : TypeId} {fr : Nat × Nat} (h : w.heap[b]? = some (.cells cur ty fr)) :
  (Sort.putRow (Value.int .i64) w b o d).heap[b]? = some (.cells (Sort.putCells (Value.int .i64) o d cur) ty fr) := by
 simp only [Sort.putRow, Sort.mapBlock, Array.getElem?_modify, if_true, h, Option.map_some, Sort.onCells]
theorem heap_putRow_ne {w : World} {b b' o : Nat} {d : Array Int} (h : b' ≠ b) : (Sort.putRow (Value.int .i64) w b o d).heap[b']? = w.heap[b']? := by
 simp only [Sort.putRow, Sort.mapBlock, Array.getElem?_modify, if_neg (Ne.symm h)]
theorem gen_compact {P : Program} {ρ : Ren} (L : Lays2.n20 P ρ) {nx : Nat} {m : Mem} {k ver : Nat} {zs : List Int} (hm : m k = .arr ver 1 (zs.map intRow)) (hk : nx <= k) (hl : zs.length <= maxLen) :
  GenStp P nx m (ρ.f 20) [.at (.ow k ver 1 zs.length)] (upd m k (.arr (ver + 1) 1 ((Lib.compact zs).map intRow))) (.at (.ow k (ver + 1) 1 (Lib.compact zs).length)) := by
 refine ⟨⟨_, L.f20, by rfl, by rfl⟩, ?_⟩
 rintro g F lam σ a w us rfl rfl rfl hI hlen hus
 obtain ⟨u, rfl⟩ : ∃ u, us = [u] := by
  match us, hlen with
  | [u], _ => exact ⟨u, rfl⟩
 have hu := hus 0 _ u rfl rfl
 obtain ⟨_, _, hX⟩ := hu
 obtain ⟨_, _, hX⟩ := hX 1 _ (.inl hm)
 have he := hI.mem.ent k
 rw [hm] at he
 obtain ⟨hw, he⟩ := he
 have hcl := compact_length zs
 rcases hX with ⟨hlk, rfl⟩ | ⟨b, o, cap, hlk, rfl, hcap, hcm, hbs⟩
 ·have hr0 : zs = [] := by
   rcases he with ⟨_, h⟩ | ⟨b, o, cur, ty, h, _⟩
   ·simpa using h
   ·rw [hlk] at h; cases h
  subst hr0
  refine (Any.slices_Compact_int_empty L none 0 w).mono ?_
  rintro e w' ⟨rfl, rfl⟩
  refine ⟨_, F, upd lam k none, rfl, Nx.bump hI hm hk (fun _ _ => rfl) (fun _ => Nat.le_refl _) (fun _ _ _ _ _ _ => rfl) (Nat.le_refl _) hI.chg (fun _ _ _ _ _ _ _ h => by cases h) ?_, ?_⟩
  ·exact ⟨(by intro r hr; cases hr), .inl ⟨upd_same _ _ _, rfl⟩⟩
  ·refine ⟨by rw [upd_same]; simp [Ent.ver], .inl ⟨rfl, rfl⟩, fun s' r' h' => ?_⟩
   rw [upd_same] at h'
   simp only [Ent.arr.injEq, true_and, reduceCtorEq, or_false] at h'
   obtain ⟨rfl, rfl⟩ := h'
   exact ⟨rfl, rfl, .inl ⟨upd_same _ _ _, rfl⟩⟩
 ·rcases he with ⟨h', _⟩ | ⟨b', o', cur, ty, hlk', hgb, hF, hh', ho, hcur, h1⟩
  ·rw [hlk] at h'; cases h'
  rw [hlk] at hlk'
  simp only [Option.some.injEq, Prod.mk.injEq] at hlk'
  obtain ⟨rfl, rfl⟩ := hlk'
  rw [bsize_eq hgb] at hbs
  rw [ints_flatten] at hcur
  have hcell : ∀ j, j < zs.length -> cur[o + j]? = some (Value.int .i64 zs.toArray[j]!) := by
   intro j hj
   have := congrArg (fun l : List Value => l[j]?) hcur
   simp only [List.getElem?_take, List.length_map, hj, if_true, List.getElem?_drop, List.getElem?_map, Array.getElem?_toList] at this
   rw [this]
   simp [hj]
  have hH : Sort.Holds (Value.int .i64) w b o zs.toArray := by
   intro j hj
   refine ⟨?_, ?_⟩
   ·simp only [World.cell?, hgb]
    exact hcell j (by simpa using hj)
   ·simp only [World.frozen?, hgb]
    simp
  refine (Any.slices_Compact_int L b o cap zs w hH (by unfold maxLen at hl; omega) (by omega)).mono ?_
  rintro e w' ⟨rfl, q, rfl⟩
  have hg1 : (Sort.ahead w q).heap[b]? = some (.cells cur ty (0, 0)) := hgb
  have hg2 := heap_putRow (o := o) (d := (Lib.compact zs ++ List.replicate (zs.length - (Lib.compact zs).length) 0).toArray) hg1
  have hne : ∀ b', b' ≠ b -> (Sort.putRow (Value.int .i64) (Sort.ahead w q) b o (Lib.compact zs ++ List.replicate (zs.length - (Lib.compact zs).length) 0).toArray).heap[b']? = w.heap[b']? := fun b' h => heap_putRow_ne h
  have hsz : (Sort.putRow (Value.int .i64) (Sort.ahead w q) b o (Lib.compact zs ++ List.replicate (zs.length - (Lib.compact zs).length) 0).toArray).heap.size = w.heap.size := Sort.size_putRow _ _ _ _ _
  have hbsz : ∀ b', bsize w b' <= bsize (Sort.putRow (Value.int .i64) (Sort.ahead w q) b o (Lib.compact zs ++ List.replicate (zs.length - (Lib.compact zs).length) 0).toArray) b' := by
   intro b'
   by_cases hbb : b' = b
   ·subst hbb; rw [bsize_eq hgb, bsize_eq hg2]; simp [Sort.putCells]
   ·unfold bsize; rw [hne b' hbb]; exact Nat.le_refl _
  refine ⟨_, F, upd lam k (some (b, o)), rfl, Nx.bump hI hm hk (fun b' hb' => hne b' fun e => hF (e ▸ hb')) hbsz (fun k' b' o' hnk hl' hlk' => hne b' fun e => ?_) (by rw [hsz]; exact Nat.le_refl _) ?_ ?_ ?_, ?_⟩
  ·subst e
   exact hnk (hI.mem.inj _ _ _ _ _ hl' (by rw [hm]; trivial) hlk' hlk)
  ·refine ⟨hI.chg.os, hI.chg.tape, hI.chg.output, by rw [hsz]; exact hI.chg.size, fun b' hb' hx => ?_, fun b' => Nat.le_trans (hI.chg.bs b') (hbsz b')⟩
   rw [hne b' ?_]
   ·exact hI.chg.block b' hb' hx
   ·rintro rfl
    have := hh'.2 hk
    omega
  ·rintro k' b' o1 o2 hnk hl' hlk' h
   simp only [Option.some.injEq, Prod.mk.injEq] at h
   obtain ⟨rfl, rfl⟩ := h
   exact hnk (hI.mem.inj _ _ _ _ _ hl' (by rw [hm]; trivial) hlk' hlk)
  ·refine ⟨ints_wf _, .inr ⟨b, o, _, ty, upd_same _ _ _, hg2, hF, hh', by simp [Sort.putCells]; omega, ?_, ?_⟩⟩
   ·rw [ints_flatten]
    apply List.ext_getElem?
    intro j
    simp only [List.getElem?_take, List.length_map, List.getElem?_drop, List.getElem?_map, Array.getElem?_toList]
    by_cases hj : j < (Lib.compact zs).length
    ·have hc := hcell j (by omega)
     rw [if_pos hj]
     simp only [Sort.putCells, Array.getElem?_mapIdx, hc, Option.map_some]
     rw [if_pos (by simp; omega), show o + j - o = j by omega]
     rw [List.getElem?_eq_getElem hj]
     simp [hj, List.getElem?_append_left hj]
    ·rw [if_neg hj, List.getElem?_eq_none (by omega)]; rfl
   ·rw [ints_flatten]
    intro u hu
    obtain ⟨x, _, rfl⟩ := List.mem_map.1 hu
    rfl
  ·refine ⟨by rw [upd_same]; simp [Ent.ver], .inr ⟨_, _, _, rfl, by omega⟩, fun s' r' h' => ?_⟩
   rw [upd_same] at h'
   simp only [Ent.arr.injEq, true_and, reduceCtorEq, or_false] at h'
   obtain ⟨rfl, rfl⟩ := h'
   exact ⟨rfl, by simp, .inr ⟨b, o, cap, upd_same _ _ _, rfl, by omega, hcm, by rw [Nat.mul_one] at hbs ⊢; exact Nat.le_trans (by rw [bsize_eq hgb]; exact hbs) (hbsz b)⟩⟩
end Go.Abs
namespace Go.Abs
open Go.RowKit Go.Proofs
set_option linter.all false
set_option maxRecDepth 100000
theorem compact0 : Lib.compact ([] : List Int) = [] := by rfl
theorem compact1 (a : Int) : Lib.compact [a] = [a] := by simp [Lib.compact, Lib.compactUpTo, Lib.keeps, List.range_succ]
theorem compact2 (a b : Int) : Lib.compact [a, b] = if a = b then [a] else [a, b] := by
 by_cases h : a = b <;> simp [Lib.compact, Lib.compactUpTo, Lib.keeps, List.range_succ, h, eq_comm]
theorem compact3 (a b c : Int) (h1 : a ≠ b) (h2 : b ≠ c) : Lib.compact [a, b, c] = [a, b, c] := by
 simp [Lib.compact, Lib.compactUpTo, Lib.keeps, List.range_succ, Ne.symm h1, Ne.symm h2]
theorem compact4 (a b c d : Int) (h1 : a ≠ b) (h2 : b ≠ c) (h3 : c ≠ d) : Lib.compact [a, b, c, d] = [a, b, c, d] := by
 simp [Lib.compact, Lib.compactUpTo, Lib.keeps, List.range_succ, Ne.symm h1, Ne.symm h2, Ne.symm h3]
theorem compact22 (a b : Int) (h : a ≠ b) : Lib.compact [a, a, b, b] = [a, b] := by
 simp [Lib.compact, Lib.compactUpTo, Lib.keeps, List.range_succ, Ne.symm h]
theorem compact_sub {zs : List Int} {y : Int} (h : y ∈ Lib.compact zs) : y ∈ zs := by
 unfold Lib.compact Lib.compactUpTo at h
 obtain ⟨j, hj, rfl⟩ := List.mem_map.1 h
 have hj := List.mem_range.1 (List.mem_filter.1 hj).1
 have : zs.toArray[j]! = zs[j] := by simp [hj]
 show zs.toArray[j]! ∈ zs
 rw [this]; exact List.getElem_mem _
def opt (p : Prop) [Decidable p] (x : Int) : List Int := if p then [x] else []
theorem opt_t {p : Prop} [Decidable p] {x : Int} (h : p) : opt p x = [x] := if_pos h
theorem opt_f {p : Prop} [Decidable p] {x : Int} (h : ¬ p) : opt p x = [] := if_neg h
theorem opt_congr {p q : Prop} [Decidable p] [Decidable q] {x : Int} (h : p ↔ q) : opt p x = opt q x := by
 by_cases hp : p
 ·rw [opt_t hp, opt_t (h.1 hp)]
 ·rw [opt_f hp, opt_f (fun k => hp (h.2 k))]
noncomputable def DLand.near (x : DLand) (n : Int) : List Int :=
 opt (0 <= n - x.w /\ x.at (n - x.w) ≠ 2) (n - x.w) ++ opt (0 < n % x.w /\ x.at (n - 1) ≠ 2) (n - 1) ++
  opt (n % x.w < x.w - 1 /\ x.at (n + 1) ≠ 2) (n + 1) ++ opt (n + x.w < x.cells.length /\ x.at (n + x.w) ≠ 2) (n + x.w)
noncomputable def DLand.Next (x : DLand) (n m : Int) : Prop := x.Open m /\ x.apartZ n m = 1
noncomputable instance (x : DLand) (n m : Int) : Decidable (x.Next n m) := Classical.propDecidable _
theorem divmod {w q r : Int} (h : 0 <= r) (h2 : r < w) : (q * w + r) % w = r /\ (q * w + r) / w = q := by
 refine ⟨?_, ?_⟩
 ·rw [Int.add_comm, Int.add_mul_emod_self_right, Int.emod_eq_of_lt h h2]
 ·rw [Int.add_comm, Int.add_mul_ediv_right _ _ (by omega), Int.ediv_eq_zero_of_lt h h2]; omega
theorem DLand.next_iff {x : DLand} {n m : Int} (hn : x.Cell n) (hm : x.Cell m) : x.Next n m ↔ (x.at m ≠ 2 /\ x.apart n m = 1) := by
 unfold DLand.Next DLand.Open DLand.apartZ
 rw [if_pos ⟨hn, hm⟩]
 exact ⟨fun h => ⟨h.1.2, h.2⟩, fun h => ⟨⟨hm, h.1⟩, h.2⟩⟩
theorem DLand.next_not {x : DLand} {n m : Int} (hm : ¬ x.Cell m) : ¬ x.Next n m := fun h => hm h.1.1
section
variable {x : DLand} {n : Int} (hn : x.Cell n)
include hn
theorem DLand.pos : ∃ q r : Int, n = q * x.w + r /\ 0 <= r /\ r < x.w /\ 0 <= q /\ q < x.h /\ n % x.w = r /\ n / x.w = q := by
 obtain ⟨a1, a2, a3, a4, _⟩ := hn.div
 refine ⟨n / x.w, n % x.w, ?_, a1, a2, a3, a4, rfl, rfl⟩
 have := Int.emod_add_mul_ediv n x.w
 rw [Int.mul_comm] at this
 omega
theorem DLand.next_up : x.Next n (n - x.w) ↔ 0 <= n - x.w /\ x.at (n - x.w) ≠ 2 := by
 obtain ⟨q, r, hq, h1, h2, h3, h4, e1, e2⟩ := DLand.pos hn
 obtain ⟨⟨w1, w2⟩, _⟩ := hn.1
 by_cases hc : x.Cell (n - x.w)
 ·rw [DLand.next_iff hn hc]
  have hd := divmod (w := x.w) (q := q - 1) h1 h2
  have e : n - x.w = (q - 1) * x.w + r := by rw [Int.sub_mul]; omega
  have : x.apart n (n - x.w) = 1 := by
   unfold DLand.apart
   rw [e, hd.1, hd.2, e1, e2]; omega
  exact ⟨fun h => ⟨hc.2.1, h.1⟩, fun h => ⟨h.2, this⟩⟩
 ·exact ⟨fun h => absurd h (DLand.next_not hc), fun h => absurd ⟨hn.1, h.1, by have := hn.2.2; omega⟩ hc⟩
theorem DLand.next_down : x.Next n (n + x.w) ↔ n + x.w < x.cells.length /\ x.at (n + x.w) ≠ 2 := by
 obtain ⟨q, r, hq, h1, h2, h3, h4, e1, e2⟩ := DLand.pos hn
 obtain ⟨⟨w1, w2⟩, _⟩ := hn.1
 by_cases hc : x.Cell (n + x.w)
 ·rw [DLand.next_iff hn hc]
  have hd := divmod (w := x.w) (q := q + 1) h1 h2
  have e : n + x.w = (q + 1) * x.w + r := by rw [Int.add_mul]; omega
  have : x.apart n (n + x.w) = 1 := by
   unfold DLand.apart
   rw [e, hd.1, hd.2, e1, e2]; omega
  exact ⟨fun h => ⟨hc.2.2, h.1⟩, fun h => ⟨h.2, this⟩⟩
 ·exact ⟨fun h => absurd h (DLand.next_not hc), fun h => absurd ⟨hn.1, by have := hn.2.1; omega, h.1⟩ hc⟩
theorem DLand.next_left (hw : 1 < x.w) : x.Next n (n - 1) ↔ 0 < n % x.w /\ x.at (n - 1) ≠ 2 := by
 obtain ⟨q, r, hq, h1, h2, h3, h4, e1, e2⟩ := DLand.pos hn
 rw [e1]
 by_cases hc : x.Cell (n - 1)
 ·rw [DLand.next_iff hn hc]
  by_cases hr : 0 < r
  ·have hd := divmod (w := x.w) (q := q) (r := r - 1) (by omega) (by omega)
   have e : n - 1 = q * x.w + (r - 1) := by omega
   have : x.apart n (n - 1) = 1 := by
    unfold DLand.apart
    rw [e, hd.1, hd.2, e1, e2]; omega
   exact ⟨fun h => ⟨hr, h.1⟩, fun h => ⟨h.2, this⟩⟩
  ·have hd := divmod (w := x.w) (q := q - 1) (r := x.w - 1) (by omega) (by omega)
   have e : n - 1 = (q - 1) * x.w + (x.w - 1) := by rw [Int.sub_mul]; omega
   have : x.apart n (n - 1) ≠ 1 := by
    unfold DLand.apart
    rw [e, hd.1, hd.2, e1, e2]; omega
   exact ⟨fun h => absurd h.2 this, fun h => absurd h.1 hr⟩
 ·refine ⟨fun h => absurd h (DLand.next_not hc), fun h => absurd ⟨hn.1, ?_, by have := hn.2.2; omega⟩ hc⟩
  have : 0 <= q * x.w := Int.mul_nonneg h3 (by omega)
  omega
theorem DLand.next_right (hw : 1 < x.w) : x.Next n (n + 1) ↔ n % x.w < x.w - 1 /\ x.at (n + 1) ≠ 2 := by
 obtain ⟨q, r, hq, h1, h2, h3, h4, e1, e2⟩ := DLand.pos hn
 rw [e1]
 have hlen : ∀ r', r' < x.w -> q * x.w + r' < x.cells.length := by
  intro r' hr'
  have h5 := hn.1.2.2.1
  have : (q + 1) * x.w <= x.h * x.w := Int.mul_le_mul_of_nonneg_right (by omega) (by omega)
  rw [Int.add_mul, Int.mul_comm x.h] at this
  omega
 by_cases hc : x.Cell (n + 1)
 ·rw [DLand.next_iff hn hc]
  by_cases hr : r < x.w - 1
  ·have hd := divmod (w := x.w) (q := q) (r := r + 1) (by omega) (by omega)
   have e : n + 1 = q * x.w + (r + 1) := by omega
   have : x.apart n (n + 1) = 1 := by
    unfold DLand.apart
    rw [e, hd.1, hd.2, e1, e2]; omega
   exact ⟨fun h => ⟨hr, h.1⟩, fun h => ⟨h.2, this⟩⟩
  ·have hd := divmod (w := x.w) (q := q + 1) (r := 0) (by omega) (by omega)
   have e : n + 1 = (q + 1) * x.w + 0 := by rw [Int.add_mul]; omega
   have : x.apart n (n + 1) ≠ 1 := by
    unfold DLand.apart
    rw [e, hd.1, hd.2, e1, e2]; omega
   exact ⟨fun h => absurd h.2 this, fun h => absurd h.1 hr⟩
 ·refine ⟨fun h => absurd h (DLand.next_not hc), fun h => absurd ⟨hn.1, by have := hn.2.1; omega, ?_⟩ hc⟩
  have := hlen (r + 1) (by omega)
  omega
theorem DLand.near_compact : Lib.compact (opt (x.Next n (n - x.w)) (n - x.w) ++ opt (x.Next n (n - 1)) (n - 1) ++ opt (x.Next n (n + 1)) (n + 1) ++ opt (x.Next n (n + x.w)) (n + x.w)) = x.near n := by
 obtain ⟨⟨w1, w2⟩, _⟩ := hn.1
 unfold DLand.near
 by_cases hw : 1 < x.w
 ·rw [opt_congr (DLand.next_up hn), opt_congr (DLand.next_down hn), opt_congr (DLand.next_left hn hw), opt_congr (DLand.next_right hn hw)]
  unfold opt
  generalize x.w = w at *
  split <;> split <;> split <;> split <;> simp only [List.nil_append, List.append_nil, List.cons_append, compact0, compact1, compact2] <;> first | rfl | rw [if_neg (by omega)] | rw [compact3 _ _ _ (by omega) (by omega)] | rw [compact4 _ _ _ _ (by omega) (by omega) (by omega)]
 ·have e : x.w = 1 := by omega
  rw [e]
  have h1 : x.Next n (n - 1) ↔ 0 <= n - 1 /\ x.at (n - 1) ≠ 2 := by have := DLand.next_up hn; rwa [e] at this
  have h2 : x.Next n (n + 1) ↔ n + 1 < x.cells.length /\ x.at (n + 1) ≠ 2 := by have := DLand.next_down hn; rwa [e] at this
  rw [opt_congr h1, opt_congr h2]
  have f1 : ∀ p : Prop, [Decidable p] -> ∀ y, opt (0 < n % 1 /\ p) y = [] := fun p _ y => opt_f (fun h => by have := h.1; omega)
  have f2 : opt (n % 1 < 1 - 1 /\ x.at (n + 1) ≠ 2) (n + 1) = [] := opt_f (fun h => by have := h.1; omega)
  have f3 : opt (0 < n % 1 /\ x.at (n - 1) ≠ 2) (n - 1) = [] := opt_f (fun h => by have := h.1; omega)
  rw [f2, f3]
  unfold opt
  split <;> split <;> simp only [List.nil_append, List.append_nil, List.cons_append, compact0, compact1, compact2, if_true, if_pos]
  rw [compact22 _ _ (by omega)]
theorem DLand.near_open {m : Int} (h : m ∈ x.near n) : x.Open m := by
 have h2 : m ∈ (opt (x.Next n (n - x.w)) (n - x.w) ++ opt (x.Next n (n - 1)) (n - 1) ++ opt (x.Next n (n + 1)) (n + 1) ++ opt (x.Next n (n + x.w)) (n + x.w)) := by
  rw [<- DLand.near_compact hn] at h
  exact compact_sub h
 simp only [List.mem_append, opt] at h2
 rcases h2 with ((h2 | h2) | h2) | h2 <;> (split at h2; · rename_i k; simp only [List.mem_singleton] at h2; subst h2; exact k.1
                                           · cases h2)
omit hn in
theorem DLand.near_len : (x.near n).length <= 4 := by
 unfold DLand.near opt
 split <;> split <;> split <;> split <;> simp
end
end Go.Abs
