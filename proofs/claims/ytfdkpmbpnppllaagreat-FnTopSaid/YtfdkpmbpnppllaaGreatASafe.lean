/- How far one can go on, and where to; days on the way home, one after another. -/
import Derived.Test.YtfdkpmbpnppllaaGreatATrekH
namespace Go.Abs
open Go.RowKit Go.Proofs
set_option linter.unusedVariables false
set_option linter.unusedSimpArgs false
set_option maxRecDepth 100000
set_option maxHeartbeats 4000000

theorem wrapS {x y : Int} (h : x = y) (h1 : -9223372036854775808 ≤ x) (h2 : x ≤ 9223372036854775807) : IntKind.i64.wrap x = y := by rw [wrap64 h1 (by omega), h]
/-! ### What is reached can be entered -/
def Opn (x : DLand) (d : List Int) : Prop := d.length = x.cells.length ∧ ∀ c, x.Cell c → 0 ≤ dist d c → x.Open c
theorem Opn.put {x : DLand} {d : List Int} {b v : Int} (h : Opn x d) (hb : x.Open b) : Opn x (d.set b.toNat v) := by
  refine ⟨by rw [List.length_set]; exact h.1, fun c hc hp => ?_⟩
  have h1 := hb.1.2; have h2 := hc.2; have h3 := h.1
  rw [dist_set (by omega)] at hp
  by_cases e : c.toNat = b.toNat
  · have : c = b := by omega
    rw [this]; exact hb
  · rw [if_neg e] at hp; exact h.2 c hc hp
theorem Opn.relax {x : DLand} {s : List Int × List Int} {a b : Int} (h : Opn x s.1) (hb : x.Open b) : Opn x (Abs.relax a s b).1 := by
  unfold Abs.relax; split
  · exact h.put hb
  · exact h
theorem Opn.fold {x : DLand} {a : Int} : ∀ (L : List Int) (s : List Int × List Int), Opn x s.1 → (∀ b ∈ L, x.Open b) → Opn x (L.foldl (Abs.relax a) s).1 := by
  intro L
  induction L with
  | nil => intro s h _; exact h
  | cons b L ih => intro s h hL; exact ih _ (h.relax (hL b (by simp))) fun y hy => hL y (by simp [hy])
theorem Opn.steps {x : DLand} : ∀ (n k : Nat) (s : List Int × List Int), Bfs x s k → k + n ≤ 65 → Opn x s.1 → Opn x (bfs x n s k) := by
  intro n
  induction n with
  | zero => intro k s _ _ h; exact h
  | succ n ih =>
    intro k s hB hk h
    cases e : s.2[k]? with
    | none => rw [bfs_end (by simpa using e)]; exact h
    | some a =>
      have ha := hB.op a (List.mem_of_getElem? e)
      rw [bfs_step e]
      exact ih (k + 1) _ (hB.visit (by omega) ha) (by omega) (Opn.fold _ _ h fun b hb => DLand.near_open ha.1.1 hb)
theorem Opn.seeds {x : DLand} (l : List Int) : Opn x (Abs.seeds x l).1 := by
  have key : ∀ (L : List Int) (s : List Int × List Int), Opn x s.1 → Opn x (L.foldl (seed x) s).1 := by
    intro L
    induction L with
    | nil => intro s h; exact h
    | cons c L ih =>
      intro s h
      refine ih _ ?_
      unfold seed; split
      · rename_i hc; exact h.put hc.1
      · exact h
  refine key l _ ⟨by simp, fun c hc hp => ?_⟩
  exfalso
  have h2 := hc.2
  have hi : c.toNat < (List.replicate x.cells.length (-1 : Int)).length := by rw [List.length_replicate]; omega
  have h3 := List.getElem_mem hi
  rw [List.mem_replicate] at h3
  rw [dist, List.getD_eq_getElem?_getD, List.getElem?_eq_getElem hi, Option.getD_some, h3.2] at hp
  omega
theorem steps_open {x : DLand} {l : List Int} {c : Int} (hc : x.Cell c) (h : 0 ≤ dist (stepsZ x l) c) : x.Open c := (Opn.steps 65 0 _ (Bfs.seeds l) (by omega) (Opn.seeds l)).2 c hc h
theorem days_cell {x : DLand} {a c : Int} (ha : x.Open a) (hc : x.Cell c) : daysZ x a c = dist (stepsZ x [a]) c ∨ (daysZ x a c < 0 ∧ dist (stepsZ x [a]) c < 0) := by
  by_cases ho : x.Open c
  · left; rw [daysZ, if_pos ⟨ha, ho⟩]
  · right
    refine ⟨by rw [daysZ, if_neg (fun h => ho h.2)]; omega, Decidable.byContradiction fun hn => ho (steps_open (l := [a]) hc (by omega))⟩
/-! ### How far one can go on -/
noncomputable def alongZ (x : DLand) (base : Int) (r : DRule) (l : List DDepot) : DParty → List Int → Nat
  | _, [] => 0
  | p, c :: rest => if goStepP x base r l p c false then alongZ x base r l (goStepZ x base r l p c false) rest + 1 else 0
theorem along_len (x : DLand) (base : Int) (r : DRule) (l : List DDepot) : ∀ (w : List Int) (p : DParty), alongZ x base r l p w ≤ w.length := by
  intro w
  induction w with
  | nil => intro p; simp [alongZ]
  | cons c w ih =>
    intro p
    have := ih (goStepZ x base r l p c false)
    simp only [alongZ, List.length_cons]; split <;> omega
/-! ### Where one can go -/
def targetP (x : DLand) (base : Int) (r : DRule) (l : List DDepot) (p : DParty) (k : Int) : Prop := 0 ≤ daysZ x p.at_ k ∧ (alongZ x base r l p ((wayZ x p.at_ k).drop 1) : Int) = daysZ x p.at_ k
noncomputable instance (x : DLand) (base : Int) (r : DRule) (l : List DDepot) (p : DParty) (k : Int) : Decidable (targetP x base r l p k) := Classical.propDecidable _
noncomputable def targetTo (x : DLand) (base : Int) (r : DRule) (l : List DDepot) (p : DParty) (n : Nat) : List Int := ((List.range n).filter fun (c : Nat) => decide (targetP x base r l p c)).map fun (c : Nat) => (c : Int)
theorem target_yes {x : DLand} {base : Int} {r : DRule} {l : List DDepot} {p : DParty} {c : Nat} (h : targetP x base r l p c) : targetTo x base r l p (c + 1) = targetTo x base r l p c ++ [(c : Int)] := by
  simp [targetTo, List.range_succ, List.filter_append, h]
theorem target_no {x : DLand} {base : Int} {r : DRule} {l : List DDepot} {p : DParty} {c : Nat} (h : ¬ targetP x base r l p c) : targetTo x base r l p (c + 1) = targetTo x base r l p c := by
  simp [targetTo, List.range_succ, List.filter_append, h]
theorem target_len {x : DLand} {base : Int} {r : DRule} {l : List DDepot} {p : DParty} {c : Nat} : (targetTo x base r l p c).length ≤ c := by
  have := List.length_filter_le (fun (c : Nat) => decide (targetP x base r l p c)) (List.range c)
  simp only [targetTo, List.length_map]; simp at this; omega
noncomputable def targetsZ (x : DLand) (base : Int) (r : DRule) (l : List DDepot) (p : DParty) : List Int := if backP x base r l p then targetTo x base r l p x.cells.length else []
theorem targetsZ_len {x : DLand} {base : Int} {r : DRule} {l : List DDepot} {p : DParty} {N : Nat} (h : x.cells.length ≤ N) : (targetsZ x base r l p).length ≤ N := by
  by_cases hb : backP x base r l p
  · rw [targetsZ, if_pos hb]; exact Nat.le_trans target_len h
  · rw [targetsZ, if_neg hb]; exact Nat.zero_le _
end Go.Abs
