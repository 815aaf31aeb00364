/- How far one can go on, and where to; days on the way home, one after another. -/
import Derived.Test.YthobmgkagcampaaGreatDoorATrek
namespace Go.Abs
open Go.RowKit Go.Proofs
set_option linter.all false
set_option maxRecDepth 100000
set_option maxHeartbeats 4000000
end Go.Abs
namespace Go.Abs
open Go.RowKit Go.Proofs
set_option linter.all false
set_option maxRecDepth 100000
set_option maxHeartbeats 4000000
theorem wrapS {x y : Int} (h : x = y) (h1 : -9223372036854775808 <= x) (h2 : x <= 9223372036854775807) : IntKind.i64.wrap x = y := by rw [wrap64 h1 (by omega), h]
def Opn (x : DLand) (d : List Int) : Prop := d.length = x.cells.length /\ ∀ c, x.Cell c -> 0 <= dist d c -> x.Open c
theorem Opn.put {x : DLand} {d : List Int} {b v : Int} (h : Opn x d) (hb : x.Open b) : Opn x (d.set b.toNat v) := by
 refine ⟨by rw [List.length_set]; exact h.1, fun c hc hp => ?_⟩
 have h1 := hb.1.2; have h2 := hc.2; have h3 := h.1
 rw [dist_set (by omega)] at hp
 by_cases e : c.toNat = b.toNat
 ·have : c = b := by omega
  rw [this]; exact hb
 ·rw [if_neg e] at hp; exact h.2 c hc hp
theorem Opn.relax {x : DLand} {s : List Int × List Int} {a b : Int} (h : Opn x s.1) (hb : x.Open b) : Opn x (Abs.relax a s b).1 := by
 unfold Abs.relax; split
 ·exact h.put hb
 ·exact h
theorem Opn.fold {x : DLand} {a : Int} : ∀ (L : List Int) (s : List Int × List Int), Opn x s.1 -> (∀ b ∈ L, x.Open b) -> Opn x (L.foldl (Abs.relax a) s).1 := by
 intro L
 induction L with
 | nil => intro s h _; exact h
 | cons b L ih => intro s h hL; exact ih _ (h.relax (hL b (by simp))) fun y hy => hL y (by simp [hy])
theorem Opn.steps {x : DLand} : ∀ (n k : Nat) (s : List Int × List Int), Bfs x s k -> k + n <= 65 -> Opn x s.1 -> Opn x (bfs x n s k) := by
 intro n
 induction n with
 | zero => intro k s _ _ h; exact h
 | succ n ih =>
  intro k s hB hk h
  cases e : s.2[k]? with
  | none => rw [bfs_end (by simpa using e)]; exact h
  | some a =>
   have ha := hB.op a (List.mem_of_getElem? e)
   rw [bfs_step e]
   exact ih (k + 1) _ (hB.visit (by omega) ha) (by omega) (Opn.fold _ _ h fun b hb => DLand.near_open ha.1.1 hb)
theorem Opn.seeds {x : DLand} (l : List Int) : Opn x (Abs.seeds x l).1 := by
 have key : ∀ (L : List Int) (s : List Int × List Int), Opn x s.1 -> Opn x (L.foldl (seed x) s).1 := by
  intro L
  induction L with
  | nil => intro s h; exact h
  | cons c L ih =>
   intro s h
   refine ih _ ?_
   unfold seed; split
   ·rename_i hc; exact h.put hc.1
   ·exact h
 refine key l _ ⟨by simp, fun c hc hp => ?_⟩
 exfalso
 have h2 := hc.2
 have hi : c.toNat < (List.replicate x.cells.length (-1 : Int)).length := by rw [List.length_replicate]; omega
 have h3 := List.getElem_mem hi
 rw [List.mem_replicate] at h3
 rw [dist, List.getD_eq_getElem?_getD, List.getElem?_eq_getElem hi, Option.getD_some, h3.2] at hp
 omega
theorem steps_open {x : DLand} {l : List Int} {c : Int} (hc : x.Cell c) (h : 0 <= dist (stepsZ x l) c) : x.Open c := (Opn.steps 65 0 _ (Bfs.seeds l) (by omega) (Opn.seeds l)).2 c hc h
theorem days_cell {x : DLand} {a c : Int} (ha : x.Open a) (hc : x.Cell c) : daysZ x a c = dist (stepsZ x [a]) c \/ (daysZ x a c < 0 /\ dist (stepsZ x [a]) c < 0) := by
 by_cases ho : x.Open c
 ·left; rw [daysZ, if_pos ⟨ha, ho⟩]
 ·right
  refine ⟨by rw [daysZ, if_neg (fun h => ho h.2)]; omega, Decidable.byContradiction fun hn => ho (steps_open (l := [a]) hc (by omega))⟩
noncomputable def alongZ (x : DLand) (base : Int) (r : DRule) (l : List DDepot) : DParty -> List Int -> Nat
 | _, [] => 0
 | p, c :: rest => if goStepP x base r l p c false then alongZ x base r l (goStepZ x base r l p c false) rest + 1 else 0
theorem impl_stepsAlong (x : DLand) (base : Int) (r : DRule) (l : List DDepot) (p : DParty) (way : List Int) (hx : x.cells.length <= 1048576) (hl : l.length <= 1048576) (hc : p.crew.length <= 1048576) (hp : p.past.length <= 1048576) (hw : way.length <= 1048576) :
  SC Tryz.prog 262 [.ag x.ats, .at (.v (.int .i64 base)), .ag r.ats, .at (.im 2 (l.map DDepot.row)), .ag p.ats, .at (.im 1 (way.map intRow))] [] (.at (.v (.int .i64 (alongZ x base r l p (way.drop 1) : Nat)))) [] := by
 refine SC.of_V mixed Tryz.func262 (by kernel_rfl) rfl Tryz.results262 _ Tryz.ntmps262 (by simp) ?_
 simp -implicitDefEqProofs only [go_sem]
 refine T.loopW mixed [1, 3, 5, 6, 8, 10, 13] (fun mm vs es => ∃ (i : Nat) (y : DParty), vs = [.at (.v (.int .i64 base)), .at (.im 2 (l.map DDepot.row)), .at (.im 1 (way.map intRow)), .at (.bx 100 0 0), .at (.bx 101 0 0), .at (.bx 102 0 0), .at (.v (.int .i64 (i + 1 : Nat)))] /\ es = [.box 0 x.ats, .box 0 r.ats, .box 0 y.ats] /\ mm + i = way.length /\ (y.crew.length <= 1048576 /\ y.past.length <= 1048576) /\ alongZ x base r l p (way.drop 1) = i + alongZ x base r l y (way.drop (i + 1)) /\ (way.length = 0 \/ i + 1 <= way.length)) way.length ?_ ?_
 ·simp -implicitDefEqProofs only [go_sem]
  exact ⟨0, p, rfl, rfl, rfl, ⟨hc, hp⟩, (Nat.zero_add _).symm, by omega⟩
 rintro q _ _ ⟨i, y, rfl, rfl, hn, ⟨hyc, hyp⟩, ha, hi⟩
 simp -implicitDefEqProofs only [go_sem]
 refine ⟨fun hlt => ?_, fun hlt => ?_⟩
 ·refine ⟨some [], by decide +kernel, ?_⟩
  simp -implicitDefEqProofs only [go_sem]
  refine ⟨by omega, fun c hc2 => ?_⟩
  rw [drop_get hc2] at ha
  refine callXQ [] ((impl_GoStep x base r l y c false hx hl hyc hyp).frozen) (by simp -implicitDefEqProofs only [go_sem]) ?_
  simp -implicitDefEqProofs only [go_sem]
  rw [alongZ] at ha
  refine ⟨fun hg => ?_, fun hg => ?_⟩
  ·rw [if_neg hg] at ha
   rw [wrap64 (by omega) (by omega), ha]; omega
  ·rw [if_pos hg] at ha
   exact ⟨q - 1, by omega, i + 1, goStepZ x base r l y c false, wrapS (by omega) (by omega) (by omega), rfl, by omega, ⟨goStepZ_c hyc, goStepZ_past hyp (by decide)⟩, by rw [ha]; omega, by omega⟩
 ·have hz : alongZ x base r l y (way.drop (i + 1)) = 0 := by rw [List.drop_eq_nil_of_le (by omega), alongZ]
  rw [wrap64 (by omega) (by omega)]; omega
theorem impl_StepsOn (x : DLand) (base : Int) (r : DRule) (l : List DDepot) (p : DParty) (k : Int) (hx : x.cells.length <= 1048576) (hl : l.length <= 1048576) (hc : p.crew.length <= 1048576) (hp : p.past.length <= 1048576) :
  SC Tryz.prog 179 [.ag x.ats, .at (.v (.int .i64 base)), .ag r.ats, .at (.im 2 (l.map DDepot.row)), .ag p.ats, .at (.v (.int .i64 k))] [] (.at (.v (.int .i64 (alongZ x base r l p ((wayZ x p.at_ k).drop 1) : Nat)))) [] := by
 refine SC.of_V mixed Tryz.func179 (by kernel_rfl) rfl Tryz.results179 _ Tryz.ntmps179 (by simp) ?_
 simp -implicitDefEqProofs only [go_sem]
 refine ⟨some [], by decide +kernel, ?_⟩
 simp -implicitDefEqProofs only [go_sem]
 refine callXQ [] (impl_WayTo x p.at_ k hx) (by simp -implicitDefEqProofs only [go_sem]) ?_
 simp -implicitDefEqProofs only [go_sem]
 have hwl := wayZ_len x p.at_ k
 refine callXQ [1352] (impl_stepsAlong x base r l p (wayZ x p.at_ k) hx hl hc hp (by omega)) (by simp -implicitDefEqProofs only [go_sem]) ?_
 simp -implicitDefEqProofs only [go_sem]
def targetP (x : DLand) (base : Int) (r : DRule) (l : List DDepot) (p : DParty) (k : Int) : Prop := 0 <= daysZ x p.at_ k /\ (alongZ x base r l p ((wayZ x p.at_ k).drop 1) : Int) = daysZ x p.at_ k
noncomputable instance (x : DLand) (base : Int) (r : DRule) (l : List DDepot) (p : DParty) (k : Int) : Decidable (targetP x base r l p k) := Classical.propDecidable _
noncomputable def targetTo (x : DLand) (base : Int) (r : DRule) (l : List DDepot) (p : DParty) (n : Nat) : List Int := ((List.range n).filter fun (c : Nat) => decide (targetP x base r l p c)).map fun (c : Nat) => (c : Int)
theorem target_yes {x : DLand} {base : Int} {r : DRule} {l : List DDepot} {p : DParty} {c : Nat} (h : targetP x base r l p c) : targetTo x base r l p (c + 1) = targetTo x base r l p c ++ [(c : Int)] := by
 simp [targetTo, List.range_succ, List.filter_append, h]
theorem target_no {x : DLand} {base : Int} {r : DRule} {l : List DDepot} {p : DParty} {c : Nat} (h : ¬ targetP x base r l p c) : targetTo x base r l p (c + 1) = targetTo x base r l p c := by
 simp [targetTo, List.range_succ, List.filter_append, h]
theorem target_len {x : DLand} {base : Int} {r : DRule} {l : List DDepot} {p : DParty} {c : Nat} : (targetTo x base r l p c).length <= c := by
 have := List.length_filter_le (fun (c : Nat) => decide (targetP x base r l p c)) (List.range c)
 simp only [targetTo, List.length_map]; simp at this; omega
noncomputable def targetsZ (x : DLand) (base : Int) (r : DRule) (l : List DDepot) (p : DParty) : List Int := if backP x base r l p then targetTo x base r l p x.cells.length else []
theorem targetsZ_len {x : DLand} {base : Int} {r : DRule} {l : List DDepot} {p : DParty} {N : Nat} (h : x.cells.length <= N) : (targetsZ x base r l p).length <= N := by
 by_cases hb : backP x base r l p
 ·rw [targetsZ, if_pos hb]; exact Nat.le_trans target_len h
 ·rw [targetsZ, if_neg hb]; exact Nat.zero_le _
theorem impl_SafeTargets (x : DLand) (base : Int) (r : DRule) (l : List DDepot) (p : DParty) (hx : x.cells.length <= 1048576) (hl : l.length <= 1048576) (hc : p.crew.length <= 1048576) (hp : p.past.length <= 1048576) :
  SC Tryz.prog 86 [.ag x.ats, .at (.v (.int .i64 base)), .ag r.ats, .at (.im 2 (l.map DDepot.row)), .ag p.ats] [] (.at (.fr 1 ((targetsZ x base r l p).map intRow))) [] := by
 refine SC.of_W mixed Tryz.func86 (by kernel_rfl) rfl Tryz.results86 _ Tryz.ntmps86 (by simp) ?_
 simp -implicitDefEqProofs only [go_sem]
 refine callX [] (impl_CanReturn x base r l p hx hl hc) (by simp -implicitDefEqProofs only [go_sem]) ?_
 simp -implicitDefEqProofs only [go_sem]
 refine ⟨fun h => by rw [targetsZ, if_neg h]; exact ⟨rfl, rfl⟩, fun h => ?_⟩
 have hop : x.Open p.at_ := h.1.1.2.2.1
 refine callX [1400] (impl_distances x [p.at_] hop.1.1 hx (by simp)) (by simp -implicitDefEqProofs only [go_sem]) ?_
 simp -implicitDefEqProofs only [go_sem]
 rw [targetsZ, if_pos h]
 have hsl := stepsZ_len x [p.at_]
 have hsd : ∀ (i : Nat) (d : Int), (stepsZ x [p.at_])[i]? = some d -> i < x.cells.length -> (d = daysZ x p.at_ i /\ 0 <= d) \/ (d < 0 /\ daysZ x p.at_ i < 0) := by
  intro i d hd hi
  have hd2 : dist (stepsZ x [p.at_]) (i : Int) = d := by simp [dist, List.getD_eq_getElem?_getD, hd]
  rcases days_cell (c := (i : Int)) hop ⟨hop.1.1, by omega, by omega⟩ with e | e <;> omega
 generalize stepsZ x [p.at_] = S at hsl hsd ⊢
 refine T.loopW mixed [1, 3, 5, 7, 9, 11, 26, 27, 28] (fun mm vs es => ∃ (i : Nat), vs = [.at (.v (.int .i64 base)), .at (.im 2 (l.map DDepot.row)), .at (.bx 100 0 0), .at (.bx 101 0 0), .at (.bx 102 0 0), .at (.ow 103 0 1 ((targetTo x base r l p i).length)), .at (.ow 104 0 1 S.length), .at (.v (.int .i64 (S.length : Nat))), .at (.v (.int .i64 (i : Nat)))] /\ es = [.box 0 x.ats, .box 0 r.ats, .box 0 p.ats, .arr 0 1 ((targetTo x base r l p i).map intRow), .arr 0 1 (S.map intRow)] /\ mm + i = x.cells.length) x.cells.length ?_ ?_
 ·simp -implicitDefEqProofs only [go_sem]
  exact ⟨0, ⟨rfl, rfl⟩, rfl, rfl⟩
 rintro q _ _ ⟨i, rfl, rfl, hn⟩
 simp -implicitDefEqProofs only [go_sem]
 refine ⟨fun hlt => ?_, fun hlt => ?_⟩
 ·have htl := target_len (x := x) (base := base) (r := r) (l := l) (p := p) (c := i)
  refine ⟨by omega, by omega, fun d hd => ?_⟩
  have hdd := hsd i d hd (by omega)
  refine ⟨fun h0 => ?_, fun h0 => ?_⟩
  ·have h1 := (hdd.resolve_right (fun k => absurd h0 (by omega))).1
   rw [h1] at h0
   refine callX [] (impl_StepsOn x base r l p i hx hl hc hp) (by simp -implicitDefEqProofs only [go_sem]) ?_
   simp -implicitDefEqProofs only [go_sem]
   rw [h1]
   refine ⟨fun he => ?_, fun he => ?_⟩
   ·have hy := target_yes (x := x) (base := base) (r := r) (l := l) (p := p) (c := i) ⟨h0, he⟩
    exact ⟨by unfold Room; omega, q - 1, by omega, i + 1, ⟨by rw [hy]; simp, wrapS (by omega) (by omega) (by omega)⟩, by rw [hy]; simp [intRow], by omega⟩
   ·have hy := target_no (x := x) (base := base) (r := r) (l := l) (p := p) (c := i) (fun k => he k.2)
    exact ⟨q - 1, by omega, i + 1, ⟨by rw [hy], wrapS (by omega) (by omega) (by omega)⟩, by rw [hy], by omega⟩
  ·have hy := target_no (x := x) (base := base) (r := r) (l := l) (p := p) (c := i) (fun k => by have := k.1; omega)
   exact ⟨q - 1, by omega, i + 1, ⟨by rw [hy], wrapS (by omega) (by omega) (by omega)⟩, by rw [hy], by omega⟩
 ·rw [show i = x.cells.length by omega]; exact ⟨rfl, rfl⟩
end Go.Abs
