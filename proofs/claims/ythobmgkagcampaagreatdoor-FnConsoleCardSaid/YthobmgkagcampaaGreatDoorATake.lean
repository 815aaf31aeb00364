/- Food that is laid and taken. -/
import Derived.Test.YthobmgkagcampaaGreatDoorAPick
namespace Go.Abs
open Go.RowKit Go.Proofs
set_option linter.all false
set_option maxRecDepth 100000
def setT (c f : Int) : List DDepot -> Bool -> List DDepot
 | [], done => if done = true then [] else [⟨c, f⟩]
 | d :: l, done => (if done = false /\ c <= d.cell then [⟨c, f⟩] else []) ++ (if d.cell ≠ c then [d] else []) ++ setT c f l (done || decide (c <= d.cell))
theorem setT_len (c f : Int) : ∀ (l : List DDepot) (b : Bool), (setT c f l b).length <= 2 * l.length + 1 := by
 intro l
 induction l with
 | nil => intro b; cases b <;> simp [setT]
 | cons d l ih =>
  intro b
  have := ih (b || decide (c <= d.cell))
  simp only [setT, List.length_append, List.length_cons]
  split <;> split <;> simp <;> omega
theorem setT_len' {c f : Int} {l : List DDepot} {b : Bool} (h : l.length <= 524287) : (setT c f l b).length <= 1048576 := by
 have := setT_len c f l b; omega
def setS (c f : Int) (l : List DDepot) (i : Nat) (b : Bool) (out : List DDepot) (e : Bool) : Prop := setT c f l b = out ++ setT c f (l.drop i) e
def setP (c f : Int) (d : DDepot) (e : Bool) : List DDepot := (if e = false /\ c <= d.cell then [⟨c, f⟩] else []) ++ (if d.cell ≠ c then [d] else [])
theorem setS_0 {c f : Int} {l : List DDepot} {b : Bool} : setS c f l 0 b [] b := by simp [setS]
theorem setS_S {c f : Int} {l : List DDepot} {i : Nat} {b e : Bool} {out : List DDepot} {d : DDepot} (hd : l[i]? = some d) (h : setS c f l i b out e) : setS c f l (i + 1) b (out ++ setP c f d e) (e || decide (c <= d.cell)) := by
 unfold setS at h ⊢
 rw [h, drop_get hd, setT, setP]; simp
theorem setP_len {c f : Int} {d : DDepot} {e : Bool} : (setP c f d e).length <= 2 := by
 unfold setP; split <;> split <;> simp
theorem spec_l8Set (l : List DDepot) (c f : Int) (hl : l.length <= 524287) : SC Tryz.prog 298 [.at (.im 2 (l.map DDepot.row)), .at (.v (.int .i64 c)), .at (.v (.int .i64 f))] [] (.at (.fr 2 ((setT c f l (decide (f = 0))).map DDepot.row))) [] := by
 refine SC.of_W mixed Tryz.func298 (by kernel_rfl) rfl Tryz.results298 _ Tryz.ntmps298 (by simp) ?_
 simp -implicitDefEqProofs only [go_sem]
 refine T.loopW mixed [0, 1, 2, 7, 8, 9] (fun mm vs es => ∃ (i : Nat) (out : List DDepot) (e : Bool), vs = [.at (.im 2 (l.map DDepot.row)), .at (.v (.int .i64 c)), .at (.v (.int .i64 f)), .at (.ow 100 0 2 out.length), .at (.v (.bool e)), .at (.v (.int .i64 i))] /\ es = [.arr 0 2 (out.map DDepot.row)] /\ mm + i = l.length /\ out.length <= 2 * i /\ setS c f l i (decide (f = 0)) out e) l.length ?_ ?_
 ·simp -implicitDefEqProofs only [go_sem]
  exact ⟨0, [], _, ⟨rfl, rfl, rfl⟩, rfl, by omega, by simp, setS_0⟩
 rintro n _ _ ⟨i, out, e, rfl, rfl, hn, ho, hs⟩
 simp -implicitDefEqProofs only [go_sem]
 have next : ∀ (d : DDepot) (pc : List DDepot) (k : Nat) (rows : List (List Value)) (e' : Bool), l[i]? = some d -> setP c f d e = pc -> k = (out ++ pc).length -> rows = (out ++ pc).map DDepot.row -> e' = (e || decide (c <= d.cell)) -> ∃ n', n' < n /\ ∃ (i1 : Nat) (out1 : List DDepot) (e1 : Bool),
   (k = out1.length /\ e' = e1 /\ IntKind.i64.wrap (i + 1) = i1) /\ rows = out1.map DDepot.row /\ n' + i1 = l.length /\ out1.length <= 2 * i1 /\ setS c f l i1 (decide (f = 0)) out1 e1 := by
  intro d pc k rows e' hd hp hk hr he
  have hi := (List.getElem?_eq_some_iff.1 hd).1
  have hlen := setP_len (c := c) (f := f) (d := d) (e := e)
  subst hp
  refine ⟨n - 1, by omega, i + 1, out ++ setP c f d e, _, ⟨hk, he, by rw [wrap64 (by omega) (by omega)]; rfl⟩, hr, by omega, ?_, setS_S hd hs⟩
  rw [List.length_append]; omega
 refine ⟨fun h => ⟨fun he => ⟨by omega, fun d hd => ⟨fun h1 => ⟨room_s (by omega) (by decide), by omega, fun d2 hd2 => ?_⟩, fun h1 => ⟨by omega, fun d2 hd2 => ?_⟩⟩⟩, fun he => ⟨by omega, fun d hd => ?_⟩⟩, fun h => ?_⟩
 ·rw [same hd hd2]
  refine ⟨fun h2 => ⟨by omega, fun d3 hd3 => ⟨room_s (by omega) (by decide), ?_⟩⟩, fun h2 => ?_⟩
  ·rw [same hd hd3]
   exact next d [⟨c, f⟩, d] _ _ _ hd (by simp [setP, he, h1, h2]) (by simp) (by simp [DDepot.row]) (by simp [h1])
  ·exact next d [⟨c, f⟩] _ _ _ hd (by simp [setP, he, h1, h2]) (by simp) (by simp [DDepot.row]) (by simp [h1])
 ·rw [same hd hd2]
  refine ⟨fun h2 => ⟨by omega, fun d3 hd3 => ⟨room_s (by omega) (by decide), ?_⟩⟩, fun h2 => ?_⟩
  ·rw [same hd hd3]
   exact next d [d] _ _ _ hd (by simp [setP, he, h1, h2]) (by simp) (by simp [DDepot.row]) (by simp [he, h1])
  ·exact absurd h2 (by omega)
 ·refine ⟨fun h2 => ⟨by omega, fun d3 hd3 => ⟨room_s (by omega) (by decide), ?_⟩⟩, fun h2 => ?_⟩
  ·rw [same hd hd3]
   exact next d [d] _ _ _ hd (by simp [setP, he, h2]) (by simp) (by simp [DDepot.row]) (by simp [he])
  ·exact next d [] _ _ _ hd (by simp [setP, he, h2]) (by simp) (by simp [DDepot.row]) (by simp [he])
 ·unfold setS at hs
  rw [drop_all h, setT] at hs
  refine ⟨fun he => ⟨room_s (by omega) (by decide), ?_⟩, fun he => ?_⟩
  ·simp [hs, he, DDepot.row]
  ·simp [hs, he]
def tk (c n : Int) (d : DDepot) : Option DDepot := if d.cell = c then (if 0 < d.food - n then some ⟨d.cell, d.food - n⟩ else none) else (if 0 < d.food then some d else none)
def takeL (c n : Int) (l : List DDepot) : List DDepot := l.filterMap (tk c n)
theorem takeL_len (c n : Int) (l : List DDepot) : (takeL c n l).length <= l.length := List.length_filterMap_le _ _
def Asc (l : List DDepot) : Prop := l.Pairwise fun a b => a.cell < b.cell
theorem DepotsP.asc {x : DLand} {l : List DDepot} (h : DepotsP x l) : Asc l := by
 unfold Asc
 rw [List.pairwise_iff_getElem]
 intro i j hi hj hij
 have step : ∀ k (hk : k + 1 < l.length), (l[k]'(by omega)).cell < l[k + 1].cell := by
  intro k hk
  have h1 := (h.1 (k + 1) l[k + 1] (List.getElem?_eq_getElem hk)).2.2 (by omega) (l[k]'(by omega)) (by simp)
  exact h1
 have key : ∀ (d : Nat) (hd : i + 1 + d < l.length), (l[i]'hi).cell < l[i + 1 + d].cell := by
  intro d
  induction d with
  | zero => exact fun hd => step i hd
  | succ d ih => exact fun hd => Int.lt_trans (ih (by omega)) (step (i + 1 + d) hd)
 obtain ⟨d, rfl⟩ : ∃ d, j = i + 1 + d := ⟨j - (i + 1), by omega⟩
 exact key d hj
theorem DepotsP.food {x : DLand} {l : List DDepot} (h : DepotsP x l) : ∀ d ∈ l, 1 <= d.food /\ d.food <= 10000 := by
 intro d hd
 obtain ⟨i, hi⟩ := List.getElem?_of_mem hd
 exact (h.1 i d hi).2.1
theorem foodAt_bnd {l : List DDepot} (h : ∀ d ∈ l, 1 <= d.food /\ d.food <= 10000) (c : Int) : 0 <= foodAt c l /\ foodAt c l <= 10000 := by
 induction l with
 | nil => simp [foodAt]
 | cons d l ih =>
  have h1 := h d (by simp)
  have h2 := ih fun y hy => h y (by simp [hy])
  unfold foodAt; split <;> omega
theorem foodAt_none {l : List DDepot} {c : Int} (h : ∀ d ∈ l, c < d.cell) : foodAt c l = 0 := by
 induction l with
 | nil => rfl
 | cons d l ih =>
  have h1 := h d (by simp)
  rw [foodAt, if_neg (by omega), ih fun y hy => h y (by simp [hy])]
theorem setT_done {c f : Int} {l : List DDepot} (h : ∀ d ∈ l, d.cell ≠ c) : setT c f l true = l := by
 induction l with
 | nil => rfl
 | cons d l ih =>
  have h1 := h d (by simp)
  simp [setT, h1, ih fun y hy => h y (by simp [hy])]
theorem takeL_id {c n : Int} {l : List DDepot} (h : ∀ d ∈ l, d.cell ≠ c) (hf : ∀ d ∈ l, 1 <= d.food /\ d.food <= 10000) : takeL c n l = l := by
 induction l with
 | nil => rfl
 | cons d l ih =>
  have h1 := h d (by simp)
  have h2 := hf d (by simp)
  have h3 := ih (fun y hy => h y (by simp [hy])) (fun y hy => hf y (by simp [hy]))
  unfold takeL at h3 ⊢
  rw [List.filterMap_cons, tk, if_neg h1, if_pos (by omega), h3]
theorem take_set {c n : Int} : ∀ {l : List DDepot}, Asc l -> (∀ d ∈ l, 1 <= d.food /\ d.food <= 10000) -> 1 <= n -> n <= foodAt c l -> setT c (foodAt c l - n) l (decide (foodAt c l - n = 0)) = takeL c n l := by
 intro l
 induction l with
 | nil => intro _ _ h1 h2; simp [foodAt] at h2; omega
 | cons d l ih =>
  intro ha hf h1 h2
  have ha' := List.pairwise_cons.1 ha
  have hf' : ∀ y ∈ l, 1 <= y.food /\ y.food <= 10000 := fun y hy => hf y (by simp [hy])
  have hd := hf d (by simp)
  by_cases hc : d.cell = c
  ·have hno : ∀ y ∈ l, y.cell ≠ c := fun y hy => by have := ha'.1 y hy; omega
   have e : foodAt c (d :: l) = d.food := by rw [foodAt, if_pos hc]
   rw [e] at h2 ⊢
   have hle : decide (c <= d.cell) = true := decide_eq_true (by omega)
   have ht := takeL_id (n := n) hno hf'
   unfold takeL at ht ⊢
   rw [setT, hle, Bool.or_true, setT_done hno, List.filterMap_cons, tk, if_pos hc, ht]
   by_cases h0 : d.food - n = 0
   ·have : ¬ (0 : Int) < d.food - n := by omega
    simp [h0, hc]
   ·have : (0 : Int) < d.food - n := by omega
    have h4 : n < d.food := by omega
    simp [h0, hc, this, h4]
  ·have e : foodAt c (d :: l) = foodAt c l := by rw [foodAt, if_neg hc]
   rw [e] at h2 ⊢
   by_cases hlt : d.cell < c
   ·have hle : decide (c <= d.cell) = false := decide_eq_false (by omega)
    have ht := ih ha'.2 hf' h1 h2
    unfold takeL at ht ⊢
    rw [setT, hle, Bool.or_false, ht, List.filterMap_cons, tk, if_neg hc]
    have : ¬ c <= d.cell := by omega
    have h4 : 0 < d.food := by omega
    simp [hc, this, h4]
   ·have : foodAt c l = 0 := foodAt_none fun y hy => by have := ha'.1 y hy; omega
    omega
def takeP (x : DLand) (l : List DDepot) (c n : Int) : Prop := DepotsP x l /\ 1 <= n /\ n <= foodAt c l
noncomputable instance (x : DLand) (l : List DDepot) (c n : Int) : Decidable (takeP x l c n) := Classical.propDecidable _
noncomputable def takeZ (x : DLand) (l : List DDepot) (c n : Int) : List DDepot := if takeP x l c n then takeL c n l else l
theorem spec_Take (x : DLand) (l : List DDepot) (c n : Int) (hx : x.cells.length <= 1048576) (hl : l.length <= 1048576) : SC Tryz.prog 250 [.ag x.ats, .at (.im 2 (l.map DDepot.row)), .at (.v (.int .i64 c)), .at (.v (.int .i64 n))] [] (.tp [.at (.fr 2 ((takeZ x l c n).map DDepot.row)), .at (.v (.bool (decide (takeP x l c n))))]) [] := by
 refine SC.of_W mixed Tryz.func250 (by kernel_rfl) rfl Tryz.results250 _ Tryz.ntmps250 (by simp) ?_
 simp -implicitDefEqProofs only [go_sem]
 refine callX [] (spec_AreDepots x l hx hl) (by simp -implicitDefEqProofs only [go_sem]) ?_
 simp -implicitDefEqProofs only [go_sem]
 refine ⟨fun h1 => ?_, fun h1 => ?_⟩
 ·refine callX [] (spec_FoodAt l c hl) (by simp -implicitDefEqProofs only [go_sem]) ?_
  simp -implicitDefEqProofs only [go_sem]
  refine callX [] (spec_l1In n 1 (foodAt c l)) (by simp -implicitDefEqProofs only [go_sem]) ?_
  simp -implicitDefEqProofs only [go_sem]
  refine ⟨fun h2 => ?_, fun h2 => ?_⟩
  ·have e : ¬ takeP x l c n := fun h => h2 h.2
   rw [takeZ, if_neg e]
   exact ⟨room_s hl (by decide), ⟨rfl, dec_f e⟩, rfl⟩
  ·refine callX [] (spec_FoodAt l c hl) (by simp -implicitDefEqProofs only [go_sem]) ?_
   simp -implicitDefEqProofs only [go_sem]
   have e : takeP x l c n := ⟨h1, h2⟩
   have hb := foodAt_bnd h1.food c
   have h20 := h1.2.2
   rw [wrap64 (by omega) (by omega)]
   refine callX [] (spec_l8Set l c (foodAt c l - n) (by omega)) (by simp -implicitDefEqProofs only [go_sem]) ?_
   simp -implicitDefEqProofs only [go_sem]
   rw [take_set h1.asc h1.food h2.1 h2.2, takeZ, if_pos e]
   exact ⟨⟨rfl, dec_t e⟩, rfl⟩
 ·have e : ¬ takeP x l c n := fun h => h1 h.1
  rw [takeZ, if_neg e]
  exact ⟨room_s hl (by decide), ⟨rfl, dec_f e⟩, rfl⟩
theorem impl_Take (x : DLand) (l : List DDepot) (c n : Int) (hx : x.cells.length <= 1048576) (hl : l.length <= 1048576) : SC Tryz.prog 284 [.ag x.ats, .at (.im 2 (l.map DDepot.row)), .at (.v (.int .i64 c)), .at (.v (.int .i64 n))] [] (.tp [.at (.fr 2 ((takeZ x l c n).map DDepot.row)), .at (.v (.bool (decide (takeP x l c n))))]) [] := by
 refine SC.of_W mixed Tryz.func284 (by kernel_rfl) rfl Tryz.results284 _ Tryz.ntmps284 (by simp) ?_
 simp -implicitDefEqProofs only [go_sem]
 refine callX [] (impl_AreDepots x l hx hl) (by simp -implicitDefEqProofs only [go_sem]) ?_
 simp -implicitDefEqProofs only [go_sem]
 refine ⟨fun h1 => ?_, fun h1 => ?_⟩
 ·refine callX [] (impl_FoodAt l c hl) (by simp -implicitDefEqProofs only [go_sem]) ?_
  simp -implicitDefEqProofs only [go_sem]
  refine callX [] (impl_InRange n 1 (foodAt c l)) (by simp -implicitDefEqProofs only [go_sem]) ?_
  simp -implicitDefEqProofs only [go_sem]
  refine ⟨fun h2 => ?_, fun h2 => ?_⟩
  ·refine callX [] (impl_copyDepots l hl) (by simp -implicitDefEqProofs only [go_sem]) ?_
   simp -implicitDefEqProofs only [go_sem]
   have e : ¬ takeP x l c n := fun h => h2 h.2
   rw [takeZ, if_neg e]
   exact ⟨⟨rfl, dec_f e⟩, rfl⟩
  ·have e : takeP x l c n := ⟨h1, h2⟩
   have h20 := h1.2.2
   refine T.loopW mixed [2, 3, 10, 28, 29, 30] (fun mm vs es => ∃ (i : Nat), vs = [.at (.v (.int .i64 c)), .at (.v (.int .i64 n)), .at (.ow 100 0 2 ((outT (tk c n) l i).length)), .at (.im 2 (l.map DDepot.row)), .at (.v (.int .i64 l.length)), .at (.v (.int .i64 i))] /\ es = [.arr 0 2 ((outT (tk c n) l i).map DDepot.row)] /\ mm + i = l.length) l.length ?_ ?_
   ·simp -implicitDefEqProofs only [go_sem]
    exact ⟨0, ⟨rfl, rfl⟩, rfl, by omega⟩
   rintro q _ _ ⟨i, rfl, rfl, hn⟩
   simp -implicitDefEqProofs only [go_sem]
   have hln := out_len (g := tk c n) (l := l) (i := i)
   refine ⟨fun h => ⟨by omega, fun d hd => ?_⟩, fun h => ?_⟩
   ·have hfd := h1.food d (mem_get hd)
    have hb := foodAt_bnd h1.food c
    have i1 : IntKind.i64.wrap ((i : Int) + 1) = ((i + 1 : Nat) : Int) := by rw [wrap64 (by omega) (by omega)]; rfl
    refine ⟨fun hc => ?_, fun hc => ⟨fun h3 => ?_, fun h3 => absurd h3 (by omega)⟩⟩
    ·rw [wrap64 (x := d.food - n) (by omega) (by omega)]
     refine ⟨fun h3 => ⟨by omega, room_s (by omega) (by decide), ?_⟩, fun h3 => ?_⟩
     ·have ho := outS (g := tk c n) hd (by rw [tk, if_pos hc, if_pos h3])
      exact ⟨q - 1, by omega, i + 1, ⟨by rw [ho]; simp, i1⟩, by rw [ho]; simp [DDepot.row], by omega⟩
     ·have ho := outN (g := tk c n) hd (by rw [tk, if_pos hc, if_neg h3])
      exact ⟨q - 1, by omega, i + 1, ⟨by rw [ho], i1⟩, by rw [ho], by omega⟩
    ·have ho := outS (g := tk c n) hd (by rw [tk, if_neg hc, if_pos h3])
     exact ⟨room_s (by omega) (by decide), q - 1, by omega, i + 1, ⟨by rw [ho]; simp, i1⟩, by rw [ho]; simp [DDepot.row], by omega⟩
   ·have ho := outEnd (g := tk c n) h
    rw [ho, takeZ, if_pos e]
    exact ⟨⟨rfl, dec_t e⟩, rfl⟩
 ·refine callX [] (impl_copyDepots l hl) (by simp -implicitDefEqProofs only [go_sem]) ?_
  simp -implicitDefEqProofs only [go_sem]
  have e : ¬ takeP x l c n := fun h => h1 h.1
  rw [takeZ, if_neg e]
  exact ⟨⟨rfl, dec_f e⟩, rfl⟩
end Go.Abs
