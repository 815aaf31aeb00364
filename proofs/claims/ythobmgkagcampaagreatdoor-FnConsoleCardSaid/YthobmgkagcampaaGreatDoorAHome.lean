/- Ways: a shortest way from a cell to a cell. -/
import Derived.Test.YthobmgkagcampaaGreatDoorATake
import Derived.Test.YthobmgkagcampaaGreatDoorAWayB
namespace Go.Abs
open Go.RowKit Go.Proofs
set_option linter.all false
set_option maxRecDepth 100000
section
variable {x : DLand} {a b : Int}
theorem steps_0 (hb : x.Open b) : dist (stepsZ x [b]) b = 0 := (stepsZ_one hb).2
theorem steps_zero (hb : x.Open b) {c : Int} (hc : x.Open c) (h : dist (stepsZ x [b]) c = 0) : c = b := ((stepsZ_one hb).1 c hc (by omega)).2.2 h
theorem steps_near (hb : x.Open b) {c e : Int} (hc : x.Open c) (h : 0 <= dist (stepsZ x [b]) c) (he : e ∈ x.near c) : 0 <= dist (stepsZ x [b]) e /\ dist (stepsZ x [b]) e <= dist (stepsZ x [b]) c + 1 /\ dist (stepsZ x [b]) c <= dist (stepsZ x [b]) e + 1 := by
 have h1 := ((stepsZ_one hb).1 c hc h).1 e he
 have h2 := ((stepsZ_one hb).1 e (DLand.near_open hc.1 he) h1.1).1 c (near_symm hc he)
 exact ⟨h1.1, h1.2, h2.2⟩
theorem steps_back (ha : x.Open a) (hb : x.Open b) : ∀ (k : Nat) (v : Int), x.Open v -> dist (stepsZ x [a]) v = k -> 0 <= dist (stepsZ x [b]) v -> 0 <= dist (stepsZ x [b]) a /\ dist (stepsZ x [b]) a <= dist (stepsZ x [b]) v + k := by
 intro k
 induction k with
 | zero =>
  intro v hv h0 h1
  have := steps_zero ha hv (by omega)
  subst this
  omega
 | succ k ih =>
  intro v hv h0 h1
  obtain ⟨e, he, hk⟩ := ((stepsZ_one ha).1 v hv (by omega)).2.1 (by omega)
  have hn := steps_near hb hv h1 he
  have := ih e (DLand.near_open hv.1 he) (by omega) hn.1
  omega
theorem steps_rev (ha : x.Open a) (hb : x.Open b) (h : 0 <= dist (stepsZ x [a]) b) : dist (stepsZ x [b]) a = dist (stepsZ x [a]) b := by
 have h1 := steps_back ha hb (dist (stepsZ x [a]) b).toNat b hb (by omega) (by rw [steps_0 hb]; omega)
 rw [steps_0 hb] at h1
 have h2 := steps_back hb ha (dist (stepsZ x [b]) a).toNat a ha (by omega) (by rw [steps_0 ha]; omega)
 rw [steps_0 ha] at h2
 omega
theorem steps_64 (hb : x.Ok) (l : List Int) (c : Int) (hc : x.Cell c) : -1 <= dist (stepsZ x l) c /\ dist (stepsZ x l) c <= 65 := by
 have h1 := stepsZ_len x l
 have h2 := hc.2
 have hi : c.toNat < (stepsZ x l).length := by omega
 have := stepsZ_bnd x l (stepsZ x l)[c.toNat] (List.getElem_mem hi)
 rw [dist, List.getD_eq_getElem?_getD, List.getElem?_eq_getElem hi]
 exact this
end
noncomputable def nextZ (x : DLand) (d : List Int) (a : Int) : Int := ((x.near a).find? fun c => decide (dist d c < dist d a)).getD a
noncomputable def wayF (x : DLand) (d : List Int) : Nat -> Int -> List Int
 | 0, a => [a]
 | k + 1, a => a :: wayF x d k (nextZ x d a)
noncomputable def wayZ (x : DLand) (a b : Int) : List Int := if daysZ x a b < 0 then [] else wayF x (stepsZ x [b]) (dist (stepsZ x [b]) a).toNat a
theorem wayF_len {x : DLand} {d : List Int} : ∀ (k : Nat) (a : Int), (wayF x d k a).length = k + 1 := by
 intro k
 induction k with
 | zero => intro a; rfl
 | succ k ih => intro a; rw [wayF, List.length_cons, ih]
theorem next_in {x : DLand} {b a : Int} (hb : x.Open b) (ha : x.Open a) (h : 0 < dist (stepsZ x [b]) a) : nextZ x (stepsZ x [b]) a ∈ x.near a /\ dist (stepsZ x [b]) (nextZ x (stepsZ x [b]) a) = dist (stepsZ x [b]) a - 1 := by
 obtain ⟨e, he, hk⟩ := ((stepsZ_one hb).1 a ha (by omega)).2.1 h
 unfold nextZ
 cases hf : (x.near a).find? (fun c => decide (dist (stepsZ x [b]) c < dist (stepsZ x [b]) a)) with
 | none =>
  have := List.find?_eq_none.1 hf e he
  simp at this; omega
 | some c =>
  have h1 := List.mem_of_find?_eq_some hf
  have h2 := List.find?_some hf
  have h3 := steps_near hb ha (by omega) h1
  simp only [Option.getD_some, decide_eq_true_eq] at h2 ⊢
  exact ⟨h1, by omega⟩
theorem next_open {x : DLand} {b a : Int} (hb : x.Open b) (ha : x.Open a) (h : 0 < dist (stepsZ x [b]) a) : x.Open (nextZ x (stepsZ x [b]) a) := DLand.near_open ha.1 (next_in hb ha h).1
theorem next_alt {x : DLand} {b a : Int} (hb : x.Open b) (ha : x.Open a) (h : 0 <= dist (stepsZ x [b]) a) : ((x.near a).find? fun c => decide (dist (stepsZ x [b]) c = dist (stepsZ x [b]) a - 1)).getD a = nextZ x (stepsZ x [b]) a := by
 unfold nextZ
 congr 1
 have : ∀ l : List Int, (∀ c ∈ l, c ∈ x.near a) -> l.find? (fun c => decide (dist (stepsZ x [b]) c = dist (stepsZ x [b]) a - 1)) = l.find? (fun c => decide (dist (stepsZ x [b]) c < dist (stepsZ x [b]) a)) := by
  intro l
  induction l with
  | nil => intro _; rfl
  | cons c l ih =>
   intro hl
   have h3 := steps_near hb ha h (hl c (by simp))
   have e : decide (dist (stepsZ x [b]) c = dist (stepsZ x [b]) a - 1) = decide (dist (stepsZ x [b]) c < dist (stepsZ x [b]) a) := decide_eq_decide.2 (by omega)
   rw [List.find?_cons, List.find?_cons, e, ih fun y hy => hl y (by simp [hy])]
 exact this _ fun c hc => hc
theorem spec_WayTo (x : DLand) (a b : Int) (hl : x.cells.length <= 1048576) : SC Tryz.prog 132 [.ag x.ats, .at (.v (.int .i64 a)), .at (.v (.int .i64 b))] [] (.at (.fr 1 ((wayZ x a b).map intRow))) [] := by
 refine SC.of_W mixed Tryz.func132 (by kernel_rfl) rfl Tryz.results132 _ Tryz.ntmps132 (by simp) ?_
 simp -implicitDefEqProofs only [go_sem]
 refine callX [] (spec_Days x a b hl) (by simp -implicitDefEqProofs only [go_sem]) ?_
 simp -implicitDefEqProofs only [go_sem]
 refine ⟨fun h => by rw [wayZ, if_pos h]; exact ⟨rfl, rfl⟩, fun h => ?_⟩
 have hop : x.Open a /\ x.Open b := by
  refine Decidable.byContradiction fun hn => h ?_
  rw [daysZ, if_neg hn]; decide
 obtain ⟨ha, hb⟩ := hop
 have hd : 0 <= dist (stepsZ x [a]) b := by rw [daysZ, if_pos ⟨ha, hb⟩] at h; omega
 have hrev := steps_rev ha hb hd
 have hbnd := steps_64 hb.1.1 [b] a ha.1
 have hlen := stepsZ_len x [b]
 refine callX [] (spec_l5From x b hb hl) (by simp -implicitDefEqProofs only [go_sem]) ?_
 simp -implicitDefEqProofs only [go_sem]
 refine ⟨room_s (by omega) (by decide), ?_⟩
 refine T.loopW mixed [1, 2, 3, 7, 8] (fun mm vs es => ∃ (c : Int) (pre : List Int), vs = [.at (.v (.int .i64 c)), .at (.v (.int .i64 b)), .at (.bx 100 0 0), .at (.ow 101 0 1 (pre.length + 1)), .at (.ow 102 0 1 ((stepsZ x [b]).length))] /\ es = [.box 0 x.ats, .arr 0 1 ((pre ++ [c]).map intRow), .arr 0 1 ((stepsZ x [b]).map intRow)] /\ x.Open c /\ dist (stepsZ x [b]) c = mm /\ mm + pre.length <= 65 /\ wayZ x a b = pre ++ wayF x (stepsZ x [b]) mm c) ((dist (stepsZ x [b]) a).toNat) ?_ ?_
 ·simp -implicitDefEqProofs only [go_sem]
  refine ⟨a, [], ⟨rfl, rfl⟩, rfl, ha, by omega, by simp; omega, ?_⟩
  rw [wayZ, if_neg h]; rfl
 rintro q _ _ ⟨c, pre, rfl, rfl, hc, hq, hp, hw⟩
 simp -implicitDefEqProofs only [go_sem]
 refine ⟨fun hne => ?_, fun he => ?_⟩
 ·have hq0 : 0 < q := by
   refine Nat.pos_of_ne_zero fun h0 => hne (steps_zero hb hc (by omega))
  refine callX [] (spec_l4Near x c hc.1 hl) (by simp -implicitDefEqProofs only [go_sem]) ?_
  simp -implicitDefEqProofs only [go_sem]
  have hnl := DLand.near_len (x := x) (n := c)
  rw [wrap64 (by omega) (by omega)]
  refine T.loopW mixed [1, 2, 3, 7, 8, 9, 10] (fun mm vs es => ∃ (j : Nat), vs = [.at (.v (.int .i64 (((x.near c).drop j).find? (fun e => decide (dist (stepsZ x [b]) e = dist (stepsZ x [b]) c - 1)) |>.getD c))), .at (.v (.int .i64 b)), .at (.bx 100 0 0), .at (.ow 101 0 1 (pre.length + 1)), .at (.ow 102 0 1 ((stepsZ x [b]).length)), .at (.ow 103 0 1 ((x.near c).length)), .at (.v (.int .i64 ((j : Int) - 1)))] /\ es = [.box 0 x.ats, .arr 0 1 ((pre ++ [c]).map intRow), .arr 0 1 ((stepsZ x [b]).map intRow), .arr 0 1 ((x.near c).map intRow)] /\ mm = j /\ j <= (x.near c).length) ((x.near c).length) ?_ ?_
  ·simp -implicitDefEqProofs only [go_sem]
   exact ⟨_, ⟨by rw [List.drop_length]; rfl, rfl⟩, rfl, Nat.le_refl _⟩
  rintro r _ _ ⟨j, rfl, rfl, hr, hj⟩
  simp -implicitDefEqProofs only [go_sem]
  refine ⟨fun hj0 => ?_, fun hj0 => ?_⟩
  ·obtain ⟨j, rfl⟩ : ∃ j', j = j' + 1 := ⟨j - 1, by omega⟩
   refine ⟨some [], by decide +kernel, ?_⟩
   simp -implicitDefEqProofs only [go_sem]
   rw [show ((j + 1 : Nat) : Int) - 1 = j by omega, Int.toNat_natCast]
   refine ⟨by omega, by omega, fun e he => ?_⟩
   have hin := mem_get he
   have hn := steps_near hb hc (by omega) hin
   have hec := (DLand.near_open hc.1 hin).1.2
   refine ⟨by omega, by omega, fun v hv => ?_⟩
   have ev := dist_get hv
   rw [wrap64 (x := ((pre.length + 1 : Nat) : Int) - 1) (by omega) (by omega), show ((pre.length + 1 : Nat) : Int) - 1 = (pre.length : Nat) by omega, Int.toNat_natCast]
   refine ⟨by omega, by omega, fun c2 hc2 => ?_⟩
   have hc2 : c = c2 := by simpa using hc2
   subst hc2
   have hcc := hc.1.2
   refine ⟨by omega, by omega, fun u hu => ?_⟩
   have eu := dist_get hu
   rw [wrap64 (x := u - 1) (by omega) (by omega), wrap64 (x := (j : Int) - 1) (by omega) (by omega)]
   have hdrop := drop_get he
   refine ⟨fun h1 => ⟨by omega, by omega, fun e2 he2 => ?_⟩, fun h1 => ?_⟩
   ·rw [same he he2]
    exact ⟨j, by omega, j, ⟨by rw [hdrop, List.find?_cons, decide_eq_true (by omega)]; rfl, rfl⟩, rfl, by omega⟩
   ·exact ⟨j, by omega, j, ⟨by rw [hdrop, List.find?_cons, decide_eq_false (by omega)], rfl⟩, rfl, by omega⟩
  ·have hj1 : j = 0 := by omega
   subst hj1
   rw [List.drop_zero, next_alt hb hc (by omega)]
   have hn := next_in hb hc (by omega)
   obtain ⟨q, rfl⟩ : ∃ q', q = q' + 1 := ⟨q - 1, by omega⟩
   refine ⟨room_s (by omega) (by decide), q, by omega, nextZ x (stepsZ x [b]) c, pre ++ [c], ⟨rfl, by simp⟩, by simp [intRow], next_open hb hc (by omega), by omega, by simp; omega, ?_⟩
   rw [hw, wayF]; simp
 ·have h0 : q = 0 := by have := steps_0 hb; rw [he] at hq; omega
  subst h0
  rw [hw, wayF]; simp
theorem impl_WayTo (x : DLand) (a b : Int) (hl : x.cells.length <= 1048576) : SC Tryz.prog 92 [.ag x.ats, .at (.v (.int .i64 a)), .at (.v (.int .i64 b))] [] (.at (.fr 1 ((wayZ x a b).map intRow))) [] := by
 refine SC.of_W mixed Tryz.func92 (by kernel_rfl) rfl Tryz.results92 _ Tryz.ntmps92 (by simp) ?_
 simp -implicitDefEqProofs only [go_sem]
 refine callX [] (impl_Days x a b hl) (by simp -implicitDefEqProofs only [go_sem]) ?_
 simp -implicitDefEqProofs only [go_sem]
 refine ⟨fun h => by rw [wayZ, if_pos h]; exact ⟨rfl, rfl⟩, fun h => ?_⟩
 have hop : x.Open a /\ x.Open b := by
  refine Decidable.byContradiction fun hn => h ?_
  rw [daysZ, if_neg hn]; decide
 obtain ⟨ha, hb⟩ := hop
 have hd : 0 <= dist (stepsZ x [a]) b := by rw [daysZ, if_pos ⟨ha, hb⟩] at h; omega
 have hrev := steps_rev ha hb hd
 have hbnd := steps_64 hb.1.1 [b] a ha.1
 have hlen := stepsZ_len x [b]
 refine callX [1304] (impl_distances x [b] hb.1.1 hl (by simp)) (by simp -implicitDefEqProofs only [go_sem]) ?_
 simp -implicitDefEqProofs only [go_sem]
 refine T.loopW mixed [2, 3, 7, 8, 9] (fun mm vs es => ∃ (c : Int) (pre : List Int), vs = [.at (.v (.int .i64 b)), .at (.bx 100 0 0), .at (.ow 101 0 1 ((stepsZ x [b]).length)), .at (.ow 102 0 1 (pre.length + 1)), .at (.v (.int .i64 c))] /\ es = [.box 0 x.ats, .arr 0 1 ((stepsZ x [b]).map intRow), .arr 0 1 ((pre ++ [c]).map intRow)] /\ x.Open c /\ dist (stepsZ x [b]) c = mm /\ mm + pre.length <= 65 /\ wayZ x a b = pre ++ wayF x (stepsZ x [b]) mm c) ((dist (stepsZ x [b]) a).toNat) ?_ ?_
 ·simp -implicitDefEqProofs only [go_sem]
  refine ⟨a, [], ⟨rfl, rfl⟩, rfl, ha, by omega, by simp; omega, ?_⟩
  rw [wayZ, if_neg h]; rfl
 rintro q _ _ ⟨c, pre, rfl, rfl, hc, hq, hp, hw⟩
 simp -implicitDefEqProofs only [go_sem]
 refine ⟨fun hne => ?_, fun he => ?_⟩
 ·have hq0 : 0 < q := by
   refine Nat.pos_of_ne_zero fun h0 => hne (steps_zero hb hc (by omega))
  refine callX [] (impl_Near x c hc.1 hl) (by simp -implicitDefEqProofs only [go_sem]) ?_
  simp -implicitDefEqProofs only [go_sem]
  have hnl := DLand.near_len (x := x) (n := c)
  have hn := next_in hb hc (by omega)
  refine T.loopW mixed [2, 3, 7, 8, 9, 29, 30, 31] (fun mm vs es => ∃ (j : Nat), vs = [.at (.v (.int .i64 b)), .at (.bx 100 0 0), .at (.ow 101 0 1 ((stepsZ x [b]).length)), .at (.ow 102 0 1 (pre.length + 1)), .at (.v (.int .i64 c)), .at (.ow 103 0 1 ((x.near c).length)), .at (.v (.int .i64 ((x.near c).length))), .at (.v (.int .i64 j))] /\ es = [.box 0 x.ats, .arr 0 1 ((stepsZ x [b]).map intRow), .arr 0 1 ((pre ++ [c]).map intRow), .arr 0 1 ((x.near c).map intRow)] /\ mm + j = (x.near c).length /\ nextZ x (stepsZ x [b]) c = (((x.near c).drop j).find? fun e => decide (dist (stepsZ x [b]) e < dist (stepsZ x [b]) c)).getD c) ((x.near c).length) ?_ ?_
  ·simp -implicitDefEqProofs only [go_sem]
   exact ⟨0, rfl, by omega, rfl⟩
  rintro r _ _ ⟨j, rfl, rfl, hr, hj⟩
  simp -implicitDefEqProofs only [go_sem]
  refine ⟨fun hj0 => ?_, fun hj0 => ?_⟩
  ·refine ⟨by omega, by omega, fun e he => ?_⟩
   refine ⟨some [], by decide +kernel, ?_⟩
   simp -implicitDefEqProofs only [go_sem]
   have hin := mem_get he
   have hec := (DLand.near_open hc.1 hin).1.2
   refine ⟨by omega, by omega, fun v hv => ?_⟩
   have ev := dist_get hv
   have hcc := hc.1.2
   refine ⟨by omega, by omega, fun u hu => ?_⟩
   have eu := dist_get hu
   have hdrop := drop_get he
   refine ⟨fun h1 => ⟨room_s (by omega) (by decide), ?_⟩, fun h1 => ?_⟩
   ·have en : nextZ x (stepsZ x [b]) c = e := by
     rw [hj, hdrop, List.find?_cons, decide_eq_true (by omega)]; rfl
    obtain ⟨q, rfl⟩ : ∃ q', q = q' + 1 := ⟨q - 1, by omega⟩
    rw [en] at hn
    refine ⟨q, by omega, e, pre ++ [c], ⟨by simp, rfl⟩, by simp [intRow], DLand.near_open hc.1 hin, by omega, by simp; omega, ?_⟩
    rw [hw, wayF, en]; simp
   ·exact ⟨r - 1, by omega, j + 1, by rw [wrap64 (by omega) (by omega)]; rfl, by omega, by rw [hj, hdrop, List.find?_cons, decide_eq_false (by omega)]⟩
  ·exfalso
   rw [drop_all hj0] at hj
   have : nextZ x (stepsZ x [b]) c = c := hj
   rw [this] at hn; omega
 ·have h0 : q = 0 := by have := steps_0 hb; rw [he] at hq; omega
  subst h0
  rw [hw, wayF]; simp
end Go.Abs
