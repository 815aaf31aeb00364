/- The cells next to a cell, and the steps from cells to all cells: what they are, told without the program. -/
import Derived.Test.YtmiajpljlkdhcaaGreatDoorALand
import Derived.Test.YtmiajpljlkdhcaaGreatDoorAComp
namespace Go.Abs
open Go.RowKit Go.Proofs
set_option linter.unusedVariables false
set_option linter.unusedSimpArgs false
set_option maxRecDepth 100000

theorem keepsS {d : Array Int} {j : Nat} (h : j + 1 < d.size) : Lib.keeps d (j + 1) = decide (d[j + 1]! ≠ d[j]!) := by simp [Lib.keeps]
theorem compact0 : Lib.compact ([] : List Int) = [] := by rfl
theorem compact1 (a : Int) : Lib.compact [a] = [a] := by simp [Lib.compact, Lib.compactUpTo, Lib.keeps, List.range_succ]
theorem compact2 (a b : Int) : Lib.compact [a, b] = if a = b then [a] else [a, b] := by
  by_cases h : a = b <;> simp [Lib.compact, Lib.compactUpTo, Lib.keeps, List.range_succ, h, eq_comm]
theorem compact3 (a b c : Int) (h1 : a ≠ b) (h2 : b ≠ c) : Lib.compact [a, b, c] = [a, b, c] := by
  simp [Lib.compact, Lib.compactUpTo, Lib.keeps, List.range_succ, Ne.symm h1, Ne.symm h2]
theorem compact4 (a b c d : Int) (h1 : a ≠ b) (h2 : b ≠ c) (h3 : c ≠ d) : Lib.compact [a, b, c, d] = [a, b, c, d] := by
  simp [Lib.compact, Lib.compactUpTo, Lib.keeps, List.range_succ, Ne.symm h1, Ne.symm h2, Ne.symm h3]
theorem compact22 (a b : Int) (h : a ≠ b) : Lib.compact [a, a, b, b] = [a, b] := by
  simp [Lib.compact, Lib.compactUpTo, Lib.keeps, List.range_succ, Ne.symm h]

theorem compact_sub {zs : List Int} {y : Int} (h : y ∈ Lib.compact zs) : y ∈ zs := by
  unfold Lib.compact Lib.compactUpTo at h
  obtain ⟨j, hj, rfl⟩ := List.mem_map.1 h
  have hj := List.mem_range.1 (List.mem_filter.1 hj).1
  have : zs.toArray[j]! = zs[j] := by simp [hj]
  show zs.toArray[j]! ∈ zs
  rw [this]; exact List.getElem_mem _
/-- A list of one place, or of none. -/
def opt (p : Prop) [Decidable p] (x : Int) : List Int := if p then [x] else []
theorem opt_t {p : Prop} [Decidable p] {x : Int} (h : p) : opt p x = [x] := if_pos h
theorem opt_f {p : Prop} [Decidable p] {x : Int} (h : ¬ p) : opt p x = [] := if_neg h
theorem opt_congr {p q : Prop} [Decidable p] [Decidable q] {x : Int} (h : p ↔ q) : opt p x = opt q x := by
  by_cases hp : p
  · rw [opt_t hp, opt_t (h.1 hp)]
  · rw [opt_f hp, opt_f (fun k => hp (h.2 k))]

/-- The open cells one step from a cell. -/
noncomputable def DLand.near (x : DLand) (n : Int) : List Int :=
  opt (0 ≤ n - x.w ∧ x.at (n - x.w) ≠ 2) (n - x.w) ++ opt (0 < n % x.w ∧ x.at (n - 1) ≠ 2) (n - 1) ++
    opt (n % x.w < x.w - 1 ∧ x.at (n + 1) ≠ 2) (n + 1) ++ opt (n + x.w < x.cells.length ∧ x.at (n + x.w) ≠ 2) (n + x.w)
noncomputable def DLand.Next (x : DLand) (n m : Int) : Prop := x.Open m ∧ x.apartZ n m = 1
noncomputable instance (x : DLand) (n m : Int) : Decidable (x.Next n m) := Classical.propDecidable _
theorem divmod {w q r : Int} (h : 0 ≤ r) (h2 : r < w) : (q * w + r) % w = r ∧ (q * w + r) / w = q := by
  refine ⟨?_, ?_⟩
  · rw [Int.add_comm, Int.add_mul_emod_self_right, Int.emod_eq_of_lt h h2]
  · rw [Int.add_comm, Int.add_mul_ediv_right _ _ (by omega), Int.ediv_eq_zero_of_lt h h2]; omega
theorem DLand.next_iff {x : DLand} {n m : Int} (hn : x.Cell n) (hm : x.Cell m) : x.Next n m ↔ (x.at m ≠ 2 ∧ x.apart n m = 1) := by
  unfold DLand.Next DLand.Open DLand.apartZ
  rw [if_pos ⟨hn, hm⟩]
  exact ⟨fun h => ⟨h.1.2, h.2⟩, fun h => ⟨⟨hm, h.1⟩, h.2⟩⟩
theorem DLand.next_not {x : DLand} {n m : Int} (hm : ¬ x.Cell m) : ¬ x.Next n m := fun h => hm h.1.1
section
variable {x : DLand} {n : Int} (hn : x.Cell n)
include hn
theorem DLand.pos : ∃ q r : Int, n = q * x.w + r ∧ 0 ≤ r ∧ r < x.w ∧ 0 ≤ q ∧ q < x.h ∧ n % x.w = r ∧ n / x.w = q := by
  obtain ⟨a1, a2, a3, a4, _⟩ := hn.div
  refine ⟨n / x.w, n % x.w, ?_, a1, a2, a3, a4, rfl, rfl⟩
  have := Int.emod_add_mul_ediv n x.w
  rw [Int.mul_comm] at this
  omega
theorem DLand.next_up : x.Next n (n - x.w) ↔ 0 ≤ n - x.w ∧ x.at (n - x.w) ≠ 2 := by
  obtain ⟨q, r, hq, h1, h2, h3, h4, e1, e2⟩ := DLand.pos hn
  obtain ⟨⟨w1, w2⟩, _⟩ := hn.1
  by_cases hc : x.Cell (n - x.w)
  · rw [DLand.next_iff hn hc]
    have hd := divmod (w := x.w) (q := q - 1) h1 h2
    have e : n - x.w = (q - 1) * x.w + r := by rw [Int.sub_mul]; omega
    have : x.apart n (n - x.w) = 1 := by
      unfold DLand.apart
      rw [e, hd.1, hd.2, e1, e2]; omega
    exact ⟨fun h => ⟨hc.2.1, h.1⟩, fun h => ⟨h.2, this⟩⟩
  · exact ⟨fun h => absurd h (DLand.next_not hc), fun h => absurd ⟨hn.1, h.1, by have := hn.2.2; omega⟩ hc⟩
theorem DLand.next_down : x.Next n (n + x.w) ↔ n + x.w < x.cells.length ∧ x.at (n + x.w) ≠ 2 := by
  obtain ⟨q, r, hq, h1, h2, h3, h4, e1, e2⟩ := DLand.pos hn
  obtain ⟨⟨w1, w2⟩, _⟩ := hn.1
  by_cases hc : x.Cell (n + x.w)
  · rw [DLand.next_iff hn hc]
    have hd := divmod (w := x.w) (q := q + 1) h1 h2
    have e : n + x.w = (q + 1) * x.w + r := by rw [Int.add_mul]; omega
    have : x.apart n (n + x.w) = 1 := by
      unfold DLand.apart
      rw [e, hd.1, hd.2, e1, e2]; omega
    exact ⟨fun h => ⟨hc.2.2, h.1⟩, fun h => ⟨h.2, this⟩⟩
  · exact ⟨fun h => absurd h (DLand.next_not hc), fun h => absurd ⟨hn.1, by have := hn.2.1; omega, h.1⟩ hc⟩
theorem DLand.next_left (hw : 1 < x.w) : x.Next n (n - 1) ↔ 0 < n % x.w ∧ x.at (n - 1) ≠ 2 := by
  obtain ⟨q, r, hq, h1, h2, h3, h4, e1, e2⟩ := DLand.pos hn
  rw [e1]
  by_cases hc : x.Cell (n - 1)
  · rw [DLand.next_iff hn hc]
    by_cases hr : 0 < r
    · have hd := divmod (w := x.w) (q := q) (r := r - 1) (by omega) (by omega)
      have e : n - 1 = q * x.w + (r - 1) := by omega
      have : x.apart n (n - 1) = 1 := by
        unfold DLand.apart
        rw [e, hd.1, hd.2, e1, e2]; omega
      exact ⟨fun h => ⟨hr, h.1⟩, fun h => ⟨h.2, this⟩⟩
    · have hd := divmod (w := x.w) (q := q - 1) (r := x.w - 1) (by omega) (by omega)
      have e : n - 1 = (q - 1) * x.w + (x.w - 1) := by rw [Int.sub_mul]; omega
      have : x.apart n (n - 1) ≠ 1 := by
        unfold DLand.apart
        rw [e, hd.1, hd.2, e1, e2]; omega
      exact ⟨fun h => absurd h.2 this, fun h => absurd h.1 hr⟩
  · refine ⟨fun h => absurd h (DLand.next_not hc), fun h => absurd ⟨hn.1, ?_, by have := hn.2.2; omega⟩ hc⟩
    have : 0 ≤ q * x.w := Int.mul_nonneg h3 (by omega)
    omega
theorem DLand.next_right (hw : 1 < x.w) : x.Next n (n + 1) ↔ n % x.w < x.w - 1 ∧ x.at (n + 1) ≠ 2 := by
  obtain ⟨q, r, hq, h1, h2, h3, h4, e1, e2⟩ := DLand.pos hn
  rw [e1]
  have hlen : ∀ r', r' < x.w → q * x.w + r' < x.cells.length := by
    intro r' hr'
    have h5 := hn.1.2.2.1
    have : (q + 1) * x.w ≤ x.h * x.w := Int.mul_le_mul_of_nonneg_right (by omega) (by omega)
    rw [Int.add_mul, Int.mul_comm x.h] at this
    omega
  by_cases hc : x.Cell (n + 1)
  · rw [DLand.next_iff hn hc]
    by_cases hr : r < x.w - 1
    · have hd := divmod (w := x.w) (q := q) (r := r + 1) (by omega) (by omega)
      have e : n + 1 = q * x.w + (r + 1) := by omega
      have : x.apart n (n + 1) = 1 := by
        unfold DLand.apart
        rw [e, hd.1, hd.2, e1, e2]; omega
      exact ⟨fun h => ⟨hr, h.1⟩, fun h => ⟨h.2, this⟩⟩
    · have hd := divmod (w := x.w) (q := q + 1) (r := 0) (by omega) (by omega)
      have e : n + 1 = (q + 1) * x.w + 0 := by rw [Int.add_mul]; omega
      have : x.apart n (n + 1) ≠ 1 := by
        unfold DLand.apart
        rw [e, hd.1, hd.2, e1, e2]; omega
      exact ⟨fun h => absurd h.2 this, fun h => absurd h.1 hr⟩
  · refine ⟨fun h => absurd h (DLand.next_not hc), fun h => absurd ⟨hn.1, by have := hn.2.1; omega, ?_⟩ hc⟩
    have := hlen (r + 1) (by omega)
    omega
/-- The cells next to a cell, found by trying four. -/
theorem DLand.near_compact : Lib.compact (opt (x.Next n (n - x.w)) (n - x.w) ++ opt (x.Next n (n - 1)) (n - 1) ++ opt (x.Next n (n + 1)) (n + 1) ++ opt (x.Next n (n + x.w)) (n + x.w)) = x.near n := by
  obtain ⟨⟨w1, w2⟩, _⟩ := hn.1
  unfold DLand.near
  by_cases hw : 1 < x.w
  · rw [opt_congr (DLand.next_up hn), opt_congr (DLand.next_down hn), opt_congr (DLand.next_left hn hw), opt_congr (DLand.next_right hn hw)]
    unfold opt
    generalize x.w = w at *
    split <;> split <;> split <;> split <;> simp only [List.nil_append, List.append_nil, List.cons_append, compact0, compact1, compact2] <;> first | rfl | rw [if_neg (by omega)] | rw [compact3 _ _ _ (by omega) (by omega)] | rw [compact4 _ _ _ _ (by omega) (by omega) (by omega)]
  · have e : x.w = 1 := by omega
    rw [e]
    have h1 : x.Next n (n - 1) ↔ 0 ≤ n - 1 ∧ x.at (n - 1) ≠ 2 := by have := DLand.next_up hn; rwa [e] at this
    have h2 : x.Next n (n + 1) ↔ n + 1 < x.cells.length ∧ x.at (n + 1) ≠ 2 := by have := DLand.next_down hn; rwa [e] at this
    rw [opt_congr h1, opt_congr h2]
    have f1 : ∀ p : Prop, [Decidable p] → ∀ y, opt (0 < n % 1 ∧ p) y = [] := fun p _ y => opt_f (fun h => by have := h.1; omega)
    have f2 : opt (n % 1 < 1 - 1 ∧ x.at (n + 1) ≠ 2) (n + 1) = [] := opt_f (fun h => by have := h.1; omega)
    have f3 : opt (0 < n % 1 ∧ x.at (n - 1) ≠ 2) (n - 1) = [] := opt_f (fun h => by have := h.1; omega)
    rw [f2, f3]
    unfold opt
    split <;> split <;> simp only [List.nil_append, List.append_nil, List.cons_append, compact0, compact1, compact2, if_true, if_pos]
    rw [compact22 _ _ (by omega)]
theorem DLand.near_open {m : Int} (h : m ∈ x.near n) : x.Open m := by
  have h2 : m ∈ (opt (x.Next n (n - x.w)) (n - x.w) ++ opt (x.Next n (n - 1)) (n - 1) ++ opt (x.Next n (n + 1)) (n + 1) ++ opt (x.Next n (n + x.w)) (n + x.w)) := by
    rw [← DLand.near_compact hn] at h
    exact compact_sub h
  simp only [List.mem_append, opt] at h2
  rcases h2 with ((h2 | h2) | h2) | h2 <;> (split at h2; · rename_i k; simp only [List.mem_singleton] at h2; subst h2; exact k.1
                                            · cases h2)
omit hn in
theorem DLand.near_len : (x.near n).length ≤ 4 := by
  unfold DLand.near opt
  split <;> split <;> split <;> split <;> simp
end
end Go.Abs
