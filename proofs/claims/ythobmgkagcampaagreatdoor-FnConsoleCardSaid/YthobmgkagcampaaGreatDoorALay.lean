/- Laying down a load. -/
import Derived.Test.YthobmgkagcampaaGreatDoorAReturn
namespace Go.Abs
open Go.RowKit Go.Proofs
set_option linter.all false
set_option maxRecDepth 100000
set_option maxHeartbeats 4000000
theorem wrapL {x y : Int} (h : x = y) (h1 : -9223372036854775808 <= x) (h2 : x <= 9223372036854775807) : IntKind.i64.wrap x = y := by rw [wrap64 h1 (by omega), h]
def layT (c n : Int) (l : List DDepot) : List DDepot := setT c (foodAt c l + n) l false
theorem asc_tail {d : DDepot} {l : List DDepot} (h : Asc (d :: l)) : Asc l /\ ∀ y ∈ l, d.cell < y.cell := ⟨(List.pairwise_cons.1 h).2, (List.pairwise_cons.1 h).1⟩
theorem lay_at {c v : Int} : ∀ {l : List DDepot} {k : Nat} {d : DDepot}, Asc l -> (∀ j e, j < k -> l[j]? = some e -> e.cell < c) -> l[k]? = some d -> d.cell = c -> foodAt c l = d.food /\ setT c v l false = l.set k ⟨c, v⟩ := by
 intro l
 induction l with
 | nil => intro k d _ _ h; simp at h
 | cons a l ih =>
  intro k d ha hk hd hc
  have ht := asc_tail ha
  cases k with
  | zero =>
   have : a = d := by simpa using hd
   subst this
   refine ⟨by rw [foodAt, if_pos hc], ?_⟩
   rw [setT, if_pos ⟨rfl, by omega⟩, if_neg (by simp [hc]), show (false || decide (c <= a.cell)) = true by simp; omega, setT_done fun y hy => by have := ht.2 y hy; omega]
   rfl
  | succ k =>
   have h0 := hk 0 a (by omega) rfl
   have h1 := ih (k := k) (d := d) ht.1 (fun j e hj he => hk (j + 1) e (by omega) (by simpa using he)) (by simpa using hd) hc
   refine ⟨by rw [foodAt, if_neg (by omega)]; exact h1.1, ?_⟩
   rw [setT, if_neg (by omega), if_pos (by omega), show (false || decide (c <= a.cell)) = false by simp; omega, h1.2]
   rfl
theorem lay_in {c v : Int} : ∀ {l : List DDepot} {k : Nat}, Asc l -> (∀ j e, j < k -> l[j]? = some e -> e.cell < c) -> k <= l.length -> (∀ e, l[k]? = some e -> c < e.cell) -> foodAt c l = 0 /\ setT c v l false = l.take k ++ ⟨c, v⟩ :: l.drop k := by
 intro l
 induction l with
 | nil => intro k _ _ hk _; simp [foodAt, setT]
 | cons a l ih =>
  intro k ha hk hl hn
  have ht := asc_tail ha
  cases k with
  | zero =>
   have h0 := hn a rfl
   refine ⟨foodAt_none fun y hy => ?_, ?_⟩
   ·rcases List.mem_cons.1 hy with e | e
    ·rw [e]; exact h0
    ·have := ht.2 y e; omega
   ·rw [setT, if_pos ⟨rfl, by omega⟩, if_pos (by omega), show (false || decide (c <= a.cell)) = true by simp; omega, setT_done fun y hy => by have := ht.2 y hy; omega]
    rfl
  | succ k =>
   have h0 := hk 0 a (by omega) rfl
   have h1 := ih (k := k) ht.1 (fun j e hj he => hk (j + 1) e (by omega) (by simpa using he)) (by simpa using hl) (fun e he => hn e (by simpa using he))
   refine ⟨by rw [foodAt, if_neg (by omega)]; exact h1.1, ?_⟩
   rw [setT, if_neg (by omega), if_pos (by omega), show (false || decide (c <= a.cell)) = false by simp; omega, h1.2]
   rfl
def layP (x : DLand) (l : List DDepot) (c n : Int) : Prop := DepotsP x l /\ (1 <= n /\ n <= 10000) /\ DepotsP x (layT c n l)
noncomputable instance (x : DLand) (l : List DDepot) (c n : Int) : Decidable (layP x l c n) := Classical.propDecidable _
noncomputable def layL (x : DLand) (l : List DDepot) (c n : Int) : List DDepot := if layP x l c n then layT c n l else l
theorem layL_len {x : DLand} {l : List DDepot} {c n : Int} {N : Nat} (h : l.length <= N) (hN : 20 <= N) : (layL x l c n).length <= N := by
 unfold layL; split
 ·rename_i k; exact Nat.le_trans k.2.2.2.2 hN
 ·exact h
theorem spec_Lay (x : DLand) (l : List DDepot) (c n : Int) (hx : x.cells.length <= 1048576) (hl : l.length <= 1048576) : SC Tryz.prog 247 [.ag x.ats, .at (.im 2 (l.map DDepot.row)), .at (.v (.int .i64 c)), .at (.v (.int .i64 n))] [] (.tp [.at (.fr 2 ((layL x l c n).map DDepot.row)), .at (.v (.bool (decide (layP x l c n))))]) [] := by
 refine SC.of_W mixed Tryz.func247 (by kernel_rfl) rfl Tryz.results247 _ Tryz.ntmps247 (by simp) ?_
 simp -implicitDefEqProofs only [go_sem]
 refine ⟨room_s hl (by decide), ?_⟩
 refine callX [] (spec_AreDepots x l hx hl) (by simp -implicitDefEqProofs only [go_sem]) ?_
 simp -implicitDefEqProofs only [go_sem]
 have no : ¬ layP x l c n -> ((l.length = (layL x l c n).length /\ false = decide (layP x l c n)) /\ List.map DDepot.row l = List.map DDepot.row (layL x l c n)) := fun h => by rw [layL, if_neg h]; exact ⟨⟨rfl, dec_f h⟩, rfl⟩
 refine ⟨fun h1 => ?_, fun h1 => no fun k => h1 k.1⟩
 refine callX [] (spec_l1In n 1 10000) (by simp -implicitDefEqProofs only [go_sem]) ?_
 simp -implicitDefEqProofs only [go_sem]
 refine ⟨fun h2 => no fun k => h2 k.2.1, fun h2 => ?_⟩
 refine callX [] (spec_FoodAt l c hl) (by simp -implicitDefEqProofs only [go_sem]) ?_
 simp -implicitDefEqProofs only [go_sem]
 have hb := foodAt_bnd h1.food c
 have hl20 := h1.2.2
 rw [wrap64 (by omega) (by omega)]
 refine callX [] (spec_l8Set l c (foodAt c l + n) (by omega)) (by simp -implicitDefEqProofs only [go_sem]) ?_
 simp -implicitDefEqProofs only [go_sem]
 rw [show decide (foodAt c l + n = 0) = false from decide_eq_false (by omega)]
 have hle := setT_len' (c := c) (f := foodAt c l + n) (l := l) (b := false) (by omega)
 refine callX [1512] (spec_AreDepots x (setT c (foodAt c l + n) l false) hx hle) (by simp -implicitDefEqProofs only [go_sem]) ?_
 simp -implicitDefEqProofs only [go_sem]
 refine ⟨fun h3 => no fun k => h3 k.2.2, fun h3 => ?_⟩
 have e : layP x l c n := ⟨h1, h2, h3⟩
 rw [layL, if_pos e, layT]; exact ⟨⟨rfl, dec_t e⟩, rfl⟩
theorem set_deps (l : List DDepot) (i : Nat) (c n : Int) : (l.map DDepot.row).set i (.int .i64 c :: .int .i64 n :: List.drop 2 ((l.map DDepot.row).getD i [])) = (l.set i ⟨c, n⟩).map DDepot.row := by
 have : List.drop 2 ((l.map DDepot.row).getD i []) = [] := by
  rw [List.getD_eq_getElem?_getD, List.getElem?_map]
  cases l[i]? <;> simp [DDepot.row]
 rw [this, List.map_set]; rfl
theorem set_food {l : List DDepot} {i : Nat} {d : DDepot} (h : l[i]? = some d) (v : Int) : (l.map DDepot.row).set i (List.take 1 ((l.map DDepot.row).getD i []) ++ [.int .i64 v] ++ List.drop 2 ((l.map DDepot.row).getD i [])) = (l.set i ⟨d.cell, v⟩).map DDepot.row := by
 rw [List.map_set, List.getD_eq_getElem?_getD, List.getElem?_map, h]; rfl
theorem ins_list {l : List DDepot} {i : Nat} (hi : i <= l.length) (z v : DDepot) : (List.take (i + 1) (l ++ [z]) ++ List.take (l.length - i) (List.drop i (l ++ [z])) ++ List.drop (l.length + 1) (l ++ [z])).set i v = l.take i ++ v :: l.drop i := by
 have h1 : List.take (i + 1) (l ++ [z]) = l.take i ++ [(l ++ [z])[i]'(by simp; omega)] := by
  rw [List.take_add_one, List.take_append_of_le_length hi, List.getElem?_eq_getElem (show i < (l ++ [z]).length by simp; omega)]; rfl
 have h2 : List.take (l.length - i) (List.drop i (l ++ [z])) = l.drop i := by
  rw [List.drop_append_of_le_length hi, List.take_append_of_le_length (by rw [List.length_drop]; omega), List.take_of_length_le (by rw [List.length_drop]; omega)]
 rw [h1, h2, List.drop_eq_nil_of_le (show (l ++ [z]).length <= l.length + 1 by simp)]
 simp [List.set_append, Nat.min_eq_left hi]
theorem ins_rows {l : List DDepot} {i : Nat} (hi : i <= l.length) (hl : l.length <= 1048576) (c n : Int) : ∀ (X : List (List Value)),
  X = List.take (IntKind.i64.wrap ((i : Int) + 1)).toNat (l.map DDepot.row ++ [[.int .i64 0, .int .i64 0]]) ++ List.take (min (l.length + 1 - i) (l.length + 1 - (IntKind.i64.wrap ((i : Int) + 1)).toNat)) (List.drop i (l.map DDepot.row ++ [[.int .i64 0, .int .i64 0]])) ++ List.drop ((IntKind.i64.wrap ((i : Int) + 1)).toNat + min (min (l.length + 1 - i) (l.length + 1 - (IntKind.i64.wrap ((i : Int) + 1)).toNat)) (l.length + 1 - i)) (l.map DDepot.row ++ [[.int .i64 0, .int .i64 0]]) ->
  X.set i (.int .i64 c :: .int .i64 n :: List.drop 2 (X.getD i [])) = (l.take i ++ (⟨c, n⟩ : DDepot) :: l.drop i).map DDepot.row := by
 intro X hX
 rw [wrap64 (by omega) (by omega), show ((i : Int) + 1).toNat = i + 1 by omega, show min (l.length + 1 - i) (l.length + 1 - (i + 1)) = l.length - i by omega, show i + 1 + min (l.length - i) (l.length + 1 - i) = l.length + 1 by omega,
  show l.map DDepot.row ++ [[.int .i64 0, .int .i64 0]] = (l ++ [(⟨0, 0⟩ : DDepot)]).map DDepot.row by simp [DDepot.row]] at hX
 rw [<- List.map_drop, <- List.map_drop, <- List.map_take, <- List.map_take, <- List.map_append, <- List.map_append] at hX
 rw [hX, set_deps, ins_list hi]
theorem impl_Lay (x : DLand) (l : List DDepot) (c n : Int) (hx : x.cells.length <= 1048576) (hl : l.length <= 1048576) : SC Tryz.prog 184 [.ag x.ats, .at (.im 2 (l.map DDepot.row)), .at (.v (.int .i64 c)), .at (.v (.int .i64 n))] [] (.tp [.at (.fr 2 ((layL x l c n).map DDepot.row)), .at (.v (.bool (decide (layP x l c n))))]) [] := by
 refine SC.of_W mixed Tryz.func184 (by kernel_rfl) rfl Tryz.results184 _ Tryz.ntmps184 (by simp) ?_
 simp -implicitDefEqProofs only [go_sem]
 have no : ¬ layP x l c n -> ((l.length = (layL x l c n).length /\ false = decide (layP x l c n)) /\ List.map DDepot.row l = List.map DDepot.row (layL x l c n)) := fun h => by rw [layL, if_neg h]; exact ⟨⟨rfl, dec_f h⟩, rfl⟩
 refine callX [] (impl_InRange n 1 10000) (by simp -implicitDefEqProofs only [go_sem]) ?_
 simp -implicitDefEqProofs only [go_sem]
 refine ⟨fun h1 => ?_, fun h1 => ?_⟩
 ·refine callX [] (impl_AreDepots x l hx hl) (by simp -implicitDefEqProofs only [go_sem]) ?_
  simp -implicitDefEqProofs only [go_sem]
  refine ⟨fun h2 => ?_, fun h2 => ?_⟩
  rotate_left
  ·refine callX [] (impl_copyDepots l hl) (by simp -implicitDefEqProofs only [go_sem]) ?_
   simp -implicitDefEqProofs only [go_sem]
   have hl20 := h2.2.2
   refine T.loopW mixed [1, 2, 3, 4, 10, 11] (fun mm vs es => ∃ (i : Nat), vs = [.at (.im 2 (l.map DDepot.row)), .at (.v (.int .i64 c)), .at (.v (.int .i64 n)), .at (.bx 100 0 0), .at (.ow 101 0 2 l.length), .at (.v (.int .i64 (i : Nat)))] /\ es = [.box 0 x.ats, .arr 0 2 (l.map DDepot.row)] /\ mm + i = l.length /\ ∀ j e, j < i -> l[j]? = some e -> e.cell < c) l.length ?_ ?_
   ·simp -implicitDefEqProofs only [go_sem]
    exact ⟨0, rfl, rfl, fun j e hj => absurd hj (by omega)⟩
   rintro q _ _ ⟨i, rfl, rfl, hn, hlow⟩
   simp -implicitDefEqProofs only [go_sem]
   have ins : i <= l.length -> (∀ e, l[i]? = some e -> c < e.cell) -> layT c n l = l.take i ++ ⟨c, n⟩ :: l.drop i := fun h1 h2' => by
    have h3 := lay_in (v := foodAt c l + n) h2.asc hlow h1 h2'
    rw [layT, h3.2, h3.1, Int.zero_add]
   refine ⟨fun hlt => ⟨by omega, by omega, fun d hd => ⟨fun hdc => ?_, fun hdc => ⟨fun _ => ⟨by omega, by omega, fun d2 hd2 => ⟨fun hdc2 => ⟨by omega, by omega, fun d3 hd3 => ⟨by omega, by omega, ?_⟩⟩, fun hdc2 => ⟨by unfold Room; omega, ?_⟩⟩⟩, fun k => absurd hlt k⟩⟩⟩, fun hlt => ⟨fun k => absurd k hlt, fun _ => ⟨by unfold Room; omega, ?_⟩⟩⟩
   ·refine ⟨q - 1, by omega, i + 1, wrapL (by omega) (by omega) (by omega), by omega, fun j e hj he => ?_⟩
    by_cases hji : j < i
    ·exact hlow j e hji he
    ·have : j = i := by omega
     subst this
     rw [same hd he]; exact hdc
   ·rw [set_food hd3]
    have hc3 : d3.cell = c := by rw [same hd2 hd3]; exact hdc2
    have h3 := lay_at (v := foodAt c l + n) h2.asc hlow hd3 hc3
    have hf3 := h2.food d3 (List.mem_of_getElem? hd3)
    have hlt : layT c n l = l.set i ⟨d3.cell, IntKind.i64.wrap (d3.food + n)⟩ := by rw [layT, h3.2, h3.1, hc3, wrap64 (by omega) (by omega)]
    have hll : (layT c n l).length = l.length := by rw [hlt, List.length_set]
    rw [<- hlt]
    refine callX [101] (impl_AreDepots x (layT c n l) hx (by omega)) (by simp -implicitDefEqProofs only [go_sem]) ?_
    simp -implicitDefEqProofs only [go_sem]
    refine ⟨fun h4 => ?_, fun h4 => ?_⟩
    ·refine callX [] (impl_copyDepots l hl) (by simp -implicitDefEqProofs only [go_sem]) ?_
     simp -implicitDefEqProofs only [go_sem]
     exact no fun k => h4 k.2.2
    ·have e : layP x l c n := ⟨h2, h1, h4⟩
     rw [layL, if_pos e]; exact ⟨⟨hll.symm, dec_t e⟩, rfl⟩
   ·refine ⟨some [], by decide +kernel, ?_⟩
    simp -implicitDefEqProofs only [go_sem]
    have hins := ins (by omega) (fun e he => by rw [same he hd] at hdc; rw [same he hd2] at hdc2; omega)
    have hll : (layT c n l).length = l.length + 1 := by rw [hins, List.length_append, List.length_take, List.length_cons, List.length_drop]; omega
    rw [ins_rows (by omega) (by omega) c n _ rfl, <- hins]
    rw [wrap64 (x := (i : Int) + 1) (by omega) (by omega)]
    refine ⟨by omega, by omega, by omega, by omega, ?_⟩
    refine callX [101] (impl_AreDepots x (layT c n l) hx (by omega)) (by simp -implicitDefEqProofs only [go_sem]) ?_
    simp -implicitDefEqProofs only [go_sem]
    refine ⟨fun h4 => ?_, fun h4 => ?_⟩
    ·refine callX [] (impl_copyDepots l hl) (by simp -implicitDefEqProofs only [go_sem]) ?_
     simp -implicitDefEqProofs only [go_sem]
     exact no fun k => h4 k.2.2
    ·have e : layP x l c n := ⟨h2, h1, h4⟩
     rw [layL, if_pos e]; exact ⟨⟨hll.symm, dec_t e⟩, rfl⟩
   ·refine ⟨some [], by decide +kernel, ?_⟩
    simp -implicitDefEqProofs only [go_sem]
    have hins := ins (by omega) (fun e he => by have := (List.getElem?_eq_some_iff.1 he).1; omega)
    have hll : (layT c n l).length = l.length + 1 := by rw [hins, List.length_append, List.length_take, List.length_cons, List.length_drop]; omega
    rw [ins_rows (by omega) (by omega) c n _ rfl, <- hins]
    rw [wrap64 (x := (i : Int) + 1) (by omega) (by omega)]
    refine ⟨by omega, by omega, by omega, by omega, ?_⟩
    refine callX [101] (impl_AreDepots x (layT c n l) hx (by omega)) (by simp -implicitDefEqProofs only [go_sem]) ?_
    simp -implicitDefEqProofs only [go_sem]
    refine ⟨fun h4 => ?_, fun h4 => ?_⟩
    ·refine callX [] (impl_copyDepots l hl) (by simp -implicitDefEqProofs only [go_sem]) ?_
     simp -implicitDefEqProofs only [go_sem]
     exact no fun k => h4 k.2.2
    ·have e : layP x l c n := ⟨h2, h1, h4⟩
     rw [layL, if_pos e]; exact ⟨⟨hll.symm, dec_t e⟩, rfl⟩
  ·refine callX [] (impl_copyDepots l hl) (by simp -implicitDefEqProofs only [go_sem]) ?_
   simp -implicitDefEqProofs only [go_sem]
   exact no fun k => h2 k.1
 ·refine callX [] (impl_copyDepots l hl) (by simp -implicitDefEqProofs only [go_sem]) ?_
  simp -implicitDefEqProofs only [go_sem]
  exact no fun k => h1 k.2.1
def mayLayP (x : DLand) (base : Int) (r : DRule) (l : List DDepot) (p : DParty) (n : Int) : Prop :=
 (backP x base r l p /\ (1 <= n /\ n <= p.food)) /\ layP x l p.at_ n /\ backP x base r (layL x l p.at_ n) { p with food := p.food - n }
noncomputable instance (x : DLand) (base : Int) (r : DRule) (l : List DDepot) (p : DParty) (n : Int) : Decidable (mayLayP x base r l p n) := Classical.propDecidable _
theorem spec_MayLay (x : DLand) (base : Int) (r : DRule) (l : List DDepot) (p : DParty) (n : Int) (hx : x.cells.length <= 1048576) (hl : l.length <= 1048576) (hc : p.crew.length <= 1048576) (hp : p.past.length <= 1048576) :
  SC Tryz.prog 231 [.ag x.ats, .at (.v (.int .i64 base)), .ag r.ats, .at (.im 2 (l.map DDepot.row)), .ag p.ats, .at (.v (.int .i64 n))] [] (.at (.v (.bool (decide (mayLayP x base r l p n))))) [] := by
 refine SC.of_V mixed Tryz.func231 (by kernel_rfl) rfl Tryz.results231 _ Tryz.ntmps231 (by simp) ?_
 simp -implicitDefEqProofs only [go_sem]
 refine callX [] (spec_CanReturn x base r l p hx hl hc) (by simp -implicitDefEqProofs only [go_sem]) ?_
 simp -implicitDefEqProofs only [go_sem]
 refine ⟨fun h1 => ?_, fun h1 => dec_f fun k => h1 k.1.1⟩
 refine callX [] (spec_l1In n 1 p.food) (by simp -implicitDefEqProofs only [go_sem]) ?_
 simp -implicitDefEqProofs only [go_sem]
 refine ⟨fun h2 => dec_f fun k => h2 k.1.2, fun h2 => ?_⟩
 have hf := h1.food
 have hll := layL_len (x := x) (l := l) (c := p.at_) (n := n) hl (by omega)
 refine callX [] (spec_Lay x l p.at_ n hx hl) (by simp -implicitDefEqProofs only [go_sem]) ?_
 simp -implicitDefEqProofs only [go_sem]
 refine callX [] (spec_l9Copy p hc hp) (by simp -implicitDefEqProofs only [go_sem]) ?_
 simp -implicitDefEqProofs only [go_sem]
 rw [wrap64 (by omega) (by omega)]
 refine ⟨fun h3 => ?_, fun h3 => dec_f fun k => h3 k.2.1⟩
 refine callX [1576, 1640, 1641] (spec_CanReturn x base r (layL x l p.at_ n) { p with food := p.food - n } hx hll hc) (by simp -implicitDefEqProofs only [go_sem]) ?_
 simp -implicitDefEqProofs only [go_sem]
 exact decide_eq_decide.2 ⟨fun k => ⟨⟨h1, h2⟩, h3, k⟩, fun k => k.2.2⟩
theorem impl_MayLay (x : DLand) (base : Int) (r : DRule) (l : List DDepot) (p : DParty) (n : Int) (hx : x.cells.length <= 1048576) (hl : l.length <= 1048576) (hc : p.crew.length <= 1048576) (hp : p.past.length <= 1048576) :
  SC Tryz.prog 285 [.ag x.ats, .at (.v (.int .i64 base)), .ag r.ats, .at (.im 2 (l.map DDepot.row)), .ag p.ats, .at (.v (.int .i64 n))] [] (.at (.v (.bool (decide (mayLayP x base r l p n))))) [] := by
 refine SC.of_V mixed Tryz.func285 (by kernel_rfl) rfl Tryz.results285 _ Tryz.ntmps285 (by simp) ?_
 simp -implicitDefEqProofs only [go_sem]
 refine callX [] (impl_CanReturn x base r l p hx hl hc) (by simp -implicitDefEqProofs only [go_sem]) ?_
 simp -implicitDefEqProofs only [go_sem]
 refine ⟨fun h1 => ?_, fun h1 => dec_f fun k => h1 k.1.1⟩
 refine callX [] (impl_InRange n 1 p.food) (by simp -implicitDefEqProofs only [go_sem]) ?_
 simp -implicitDefEqProofs only [go_sem]
 refine ⟨fun h2 => dec_f fun k => h2 k.1.2, fun h2 => ?_⟩
 have hf := h1.food
 have hll := layL_len (x := x) (l := l) (c := p.at_) (n := n) hl (by omega)
 refine callX [] (impl_Lay x l p.at_ n hx hl) (by simp -implicitDefEqProofs only [go_sem]) ?_
 simp -implicitDefEqProofs only [go_sem]
 refine ⟨some [], by decide +kernel, ?_⟩
 simp -implicitDefEqProofs only [go_sem]
 refine ⟨fun h3 => ?_, fun h3 => dec_f fun k => h3 k.2.1⟩
 refine callXQ [] (impl_less p n hc hp (by unfold I64; omega)) (by simp -implicitDefEqProofs only [go_sem]) ?_
 simp -implicitDefEqProofs only [go_sem]
 refine callXQ [1560, 1736, 1737] (impl_CanReturn x base r (layL x l p.at_ n) { p with food := p.food - n } hx hll hc) (by simp -implicitDefEqProofs only [go_sem]) ?_
 simp -implicitDefEqProofs only [go_sem]
 exact decide_eq_decide.2 ⟨fun k => ⟨⟨h1, h2⟩, h3, k⟩, fun k => k.2.2⟩
noncomputable def layStepZ (x : DLand) (base : Int) (r : DRule) (l : List DDepot) (p : DParty) (n : Int) : DParty := if mayLayP x base r l p n then { p with food := p.food - n } else p
noncomputable def layStepL (x : DLand) (base : Int) (r : DRule) (l : List DDepot) (p : DParty) (n : Int) : List DDepot := if mayLayP x base r l p n then layL x l p.at_ n else l
theorem layStepL_len {x : DLand} {base : Int} {r : DRule} {l : List DDepot} {p : DParty} {n : Int} {N : Nat} (h : l.length <= N) (hN : 20 <= N) : (layStepL x base r l p n).length <= N := by
 unfold layStepL; split
 ·exact layL_len h hN
 ·exact h
theorem layStepZ_crew {x : DLand} {base : Int} {r : DRule} {l : List DDepot} {p : DParty} {n : Int} : (layStepZ x base r l p n).crew = p.crew /\ (layStepZ x base r l p n).past = p.past := by
 by_cases h : mayLayP x base r l p n
 ·rw [layStepZ, if_pos h]; exact ⟨rfl, rfl⟩
 ·rw [layStepZ, if_neg h]; exact ⟨rfl, rfl⟩
theorem layStepZ_c {x : DLand} {base : Int} {r : DRule} {l : List DDepot} {p : DParty} {n : Int} {N : Nat} (h : p.crew.length <= N) : (layStepZ x base r l p n).crew.length <= N := by rw [layStepZ_crew.1]; exact h
theorem layStepZ_p {x : DLand} {base : Int} {r : DRule} {l : List DDepot} {p : DParty} {n : Int} {N : Nat} (h : p.past.length <= N) : (layStepZ x base r l p n).past.length <= N := by rw [layStepZ_crew.2]; exact h
theorem spec_LayStep (x : DLand) (base : Int) (r : DRule) (l : List DDepot) (p : DParty) (n : Int) (hx : x.cells.length <= 1048576) (hl : l.length <= 1048576) (hc : p.crew.length <= 1048576) (hp : p.past.length <= 1048576) :
  SC Tryz.prog 165 [.ag x.ats, .at (.v (.int .i64 base)), .ag r.ats, .at (.im 2 (l.map DDepot.row)), .ag p.ats, .at (.v (.int .i64 n))] [] (.tp [.ag (layStepZ x base r l p n).frs, .at (.fr 2 ((layStepL x base r l p n).map DDepot.row)), .at (.v (.bool (decide (mayLayP x base r l p n))))]) [] := by
 refine SC.of_W mixed Tryz.func165 (by kernel_rfl) rfl Tryz.results165 _ Tryz.ntmps165 (by simp) ?_
 simp -implicitDefEqProofs only [go_sem]
 refine callX [] (spec_l9Copy p hc hp) (by simp -implicitDefEqProofs only [go_sem]) ?_
 simp -implicitDefEqProofs only [go_sem]
 refine callX [] (spec_MayLay x base r l p n hx hl hc hp) (by simp -implicitDefEqProofs only [go_sem]) ?_
 simp -implicitDefEqProofs only [go_sem]
 refine ⟨fun e => ?_, fun e => ?_⟩
 rotate_left
 ·have hf := e.1.1.food
  have h2 := e.1.2
  refine callX [] (spec_Lay x l p.at_ n hx hl) (by simp -implicitDefEqProofs only [go_sem]) ?_
  simp -implicitDefEqProofs only [go_sem]
  rw [wrap64 (by omega) (by omega)]
  rw [layStepZ, layStepL, if_pos e, if_pos e]; exact ⟨⟨⟨rfl, rfl, rfl, rfl⟩, rfl, dec_t e⟩, rfl, rfl, rfl⟩
 ·refine ⟨some [], by decide +kernel, ?_⟩
  simp -implicitDefEqProofs only [go_sem]
  rw [layStepZ, layStepL, if_neg e, if_neg e]; exact ⟨room_s hl (by decide), ⟨⟨rfl, rfl, rfl, rfl⟩, rfl, dec_f e⟩, rfl, rfl, rfl⟩
theorem impl_LayStep (x : DLand) (base : Int) (r : DRule) (l : List DDepot) (p : DParty) (n : Int) (hx : x.cells.length <= 1048576) (hl : l.length <= 1048576) (hc : p.crew.length <= 1048576) (hp : p.past.length <= 1048576) :
  SC Tryz.prog 210 [.ag x.ats, .at (.v (.int .i64 base)), .ag r.ats, .at (.im 2 (l.map DDepot.row)), .ag p.ats, .at (.v (.int .i64 n))] [] (.tp [.ag (layStepZ x base r l p n).frs, .at (.fr 2 ((layStepL x base r l p n).map DDepot.row)), .at (.v (.bool (decide (mayLayP x base r l p n))))]) [] := by
 refine SC.of_W mixed Tryz.func210 (by kernel_rfl) rfl Tryz.results210 _ Tryz.ntmps210 (by simp) ?_
 simp -implicitDefEqProofs only [go_sem]
 refine callX [] (impl_MayLay x base r l p n hx hl hc hp) (by simp -implicitDefEqProofs only [go_sem]) ?_
 simp -implicitDefEqProofs only [go_sem]
 refine ⟨fun e => ?_, fun e => ?_⟩
 rotate_left
 ·have hf := e.1.1.food
  have h2 := e.1.2
  refine callX [] (impl_Lay x l p.at_ n hx hl) (by simp -implicitDefEqProofs only [go_sem]) ?_
  simp -implicitDefEqProofs only [go_sem]
  refine callX [] (impl_less p n hc hp (by unfold I64; omega)) (by simp -implicitDefEqProofs only [go_sem]) ?_
  simp -implicitDefEqProofs only [go_sem]
  rw [layStepZ, layStepL, if_pos e, if_pos e]; exact ⟨⟨⟨rfl, rfl, rfl, rfl⟩, rfl, dec_t e⟩, rfl, rfl, rfl⟩
 ·refine callX [] (impl_copied p hc hp) (by simp -implicitDefEqProofs only [go_sem]) ?_
  simp -implicitDefEqProofs only [go_sem]
  refine callX [] (impl_copyDepots l hl) (by simp -implicitDefEqProofs only [go_sem]) ?_
  simp -implicitDefEqProofs only [go_sem]
  rw [layStepZ, layStepL, if_neg e, if_neg e]; exact ⟨⟨⟨rfl, rfl, rfl, rfl⟩, rfl, dec_f e⟩, rfl, rfl, rfl⟩
end Go.Abs
