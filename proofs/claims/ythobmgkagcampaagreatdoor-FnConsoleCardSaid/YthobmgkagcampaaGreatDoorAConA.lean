/- What the console is asked: choices, turns, what is left at home, what may be laid. -/
import Derived.Test.YthobmgkagcampaaGreatDoorASafe
import Derived.Test.YthobmgkagcampaaGreatDoorAStpX
import Derived.Test.YthobmgkagcampaaGreatDoorALay
namespace Go.Abs
open Go.RowKit Go.Proofs
set_option linter.all false
set_option maxRecDepth 100000
set_option maxHeartbeats 4000000
theorem waitStepZ_past {x : DLand} {base : Int} {r : DRule} {l : List DDepot} {p : DParty} {s : Bool} {N : Nat} (hN : p.past.length <= N) (h10 : 10 <= N) : (waitStepZ x base r l p s).past.length <= N := by
 by_cases h : waitStepP x base r l p s
 ·rw [waitStepZ, if_pos h]; exact Nat.le_trans (addDay_len _ _) h10
 ·rw [waitStepZ, if_neg h]; exact hN
theorem waitStepZ_c {x : DLand} {base : Int} {r : DRule} {l : List DDepot} {p : DParty} {s : Bool} {N : Nat} (hN : p.crew.length <= N) : (waitStepZ x base r l p s).crew.length <= N := by rw [waitStepZ_crew]; exact hN
noncomputable def wst (r : DRule) (b : Bool) (p : DParty) : Bool := if b = true then decide (mayP r p.past) else false
noncomputable def waitsF (x : DLand) (base : Int) (r : DRule) (l : List DDepot) (b : Bool) : Nat -> DParty -> Nat
 | 0, _ => 0
 | n + 1, p => if waitStepP x base r l p (wst r b p) then waitsF x base r l b n (waitStepZ x base r l p (wst r b p)) + 1 else 0
theorem waitsF_le {x : DLand} {base : Int} {r : DRule} {l : List DDepot} {b : Bool} : ∀ (n : Nat) (p : DParty), waitsF x base r l b n p <= n := by
 intro n
 induction n with
 | zero => intro p; exact Nat.le_refl _
 | succ n ih =>
  intro p
  rw [waitsF]
  split
  ·have := ih (waitStepZ x base r l p (wst r b p)); omega
  ·omega
theorem waitsF_worst {x : DLand} {base : Int} {r : DRule} {l : List DDepot} {n : Nat} {p : DParty} : waitsF x base r l true (n + 1) p = if waitStepP x base r l p (decide (mayP r p.past)) then waitsF x base r l true n (waitStepZ x base r l p (decide (mayP r p.past))) + 1 else 0 := by
 have e : wst r true p = decide (mayP r p.past) := if_pos rfl
 rw [waitsF, e]
theorem impl_waits_worst (x : DLand) (base : Int) (r : DRule) (l : List DDepot) (p : DParty) (hx : x.cells.length <= 1048576) (hl : l.length <= 1048576) (hc : p.crew.length <= 1048576) (hp : p.past.length <= 1048576) :
  SC Tryz.prog 181 [.ag x.ats, .at (.v (.int .i64 base)), .ag r.ats, .at (.im 2 (l.map DDepot.row)), .ag p.ats, .at (.v (.bool true))] [] (.at (.v (.int .i64 (waitsF x base r l true 100 p : Nat)))) [] := by
 refine SC.of_V mixed Tryz.func181 (by kernel_rfl) rfl Tryz.results181 _ Tryz.ntmps181 (by simp) ?_
 simp -implicitDefEqProofs only [go_sem]
 refine T.loopW mixed [1, 3, 5, 6, 8, 10, 16] (fun mm vs es => ∃ (i : Nat) (y : DParty), vs = [.at (.v (.int .i64 base)), .at (.im 2 (l.map DDepot.row)), .at (.v (.bool true)), .at (.bx 100 0 0), .at (.bx 101 0 0), .at (.bx 102 0 0), .at (.v (.int .i64 (i : Nat)))] /\ es = [.box 0 x.ats, .box 0 r.ats, .box 0 y.ats] /\ mm + i = 100 /\ (y.crew.length <= 1048576 /\ y.past.length <= 1048576) /\ waitsF x base r l true 100 p = i + waitsF x base r l true mm y) 100 ?_ ?_
 ·simp -implicitDefEqProofs only [go_sem]
  exact ⟨0, p, rfl, rfl, rfl, ⟨hc, hp⟩, (Nat.zero_add _).symm⟩
 rintro q _ _ ⟨i, y, rfl, rfl, hn, ⟨hyc, hyp⟩, ha⟩
 simp -implicitDefEqProofs only [go_sem]
 refine ⟨fun hlt => ?_, fun hlt => ?_⟩
 ·refine ⟨some [], by decide +kernel, ?_⟩
  simp -implicitDefEqProofs only [go_sem]
  refine callXQ [] (impl_MayStorm r y.past hyp) (by simp -implicitDefEqProofs only [go_sem]) ?_
  simp -implicitDefEqProofs only [go_sem]
  refine callXQ [] ((impl_WaitStep x base r l y (decide (mayP r y.past)) hx hl hyc hyp).frozen) (by simp -implicitDefEqProofs only [go_sem]) ?_
  simp -implicitDefEqProofs only [go_sem]
  obtain ⟨q, rfl⟩ : ∃ q', q = q' + 1 := ⟨q - 1, by omega⟩
  have hs := waitsF_worst (x := x) (base := base) (r := r) (l := l) (n := q) (p := y)
  rw [hs] at ha
  refine ⟨fun hg => ?_, fun hg => ?_⟩
  ·rw [if_neg hg] at ha
   rw [ha]; rfl
  ·rw [if_pos hg] at ha
   exact ⟨q, by omega, i + 1, waitStepZ x base r l y (decide (mayP r y.past)), wrapS (by omega) (by omega) (by omega), rfl, by omega, ⟨waitStepZ_c hyc, waitStepZ_past hyp (by decide)⟩, by rw [ha]; omega⟩
 ·have hq : q = 0 := by omega
  subst hq
  rw [ha, waitsF]
  omega
noncomputable def latestZ (x : DLand) (base : Int) (r : DRule) (l : List DDepot) (p : DParty) : Nat := waitsF x base r l true 100 p
theorem impl_LatestTurn (x : DLand) (base : Int) (r : DRule) (l : List DDepot) (p : DParty) (hx : x.cells.length <= 1048576) (hl : l.length <= 1048576) (hc : p.crew.length <= 1048576) (hp : p.past.length <= 1048576) :
  SC Tryz.prog 88 [.ag x.ats, .at (.v (.int .i64 base)), .ag r.ats, .at (.im 2 (l.map DDepot.row)), .ag p.ats] [] (.at (.v (.int .i64 (latestZ x base r l p : Nat)))) [] := by
 refine SC.of_V mixed Tryz.func88 (by kernel_rfl) rfl Tryz.results88 _ Tryz.ntmps88 (by simp) ?_
 simp -implicitDefEqProofs only [go_sem]
 refine callX [] (impl_waits_worst x base r l p hx hl hc hp) (by simp -implicitDefEqProofs only [go_sem]) ?_
 simp -implicitDefEqProofs only [go_sem]
 rfl
theorem nearZ_len4 {x : DLand} {n : Int} : (nearZ x n).length <= 4 := by
 unfold nearZ; split
 ·exact DLand.near_len
 ·simp
noncomputable def choicesZ (x : DLand) (base : Int) (r : DRule) (l : List DDepot) (p : DParty) : List Int := (nearZ x p.at_).filter fun c => decide (mayGoP x base r l p c)
theorem choicesZ_len {x : DLand} {base : Int} {r : DRule} {l : List DDepot} {p : DParty} : (choicesZ x base r l p).length <= 4 := Nat.le_trans (List.length_filter_le _ _) nearZ_len4
theorem impl_ChoicesOf (x : DLand) (base : Int) (r : DRule) (l : List DDepot) (p : DParty) (hx : x.cells.length <= 1048576) (hl : l.length <= 1048576) (hc : p.crew.length <= 1048576) (hp : p.past.length <= 1048576) :
  SC Tryz.prog 85 [.ag x.ats, .at (.v (.int .i64 base)), .ag r.ats, .at (.im 2 (l.map DDepot.row)), .ag p.ats] [] (.at (.fr 1 ((choicesZ x base r l p).map intRow))) [] := by
 refine SC.of_W mixed Tryz.func85 (by kernel_rfl) rfl Tryz.results85 _ Tryz.ntmps85 (by simp) ?_
 simp -implicitDefEqProofs only [go_sem]
 refine callX [] (impl_NearZ x p.at_ hx) (by simp -implicitDefEqProofs only [go_sem]) ?_
 simp -implicitDefEqProofs only [go_sem]
 have h4 := nearZ_len4 (x := x) (n := p.at_)
 refine T.loopW mixed [1, 3, 5, 7, 9, 11, 18, 19, 20] (fun mm vs es => ∃ (i : Nat) (out : List Int), vs = [.at (.v (.int .i64 base)), .at (.im 2 (l.map DDepot.row)), .at (.bx 100 0 0), .at (.bx 101 0 0), .at (.bx 102 0 0), .at (.ow 103 0 1 out.length), .at (.ow 104 0 1 ((nearZ x p.at_).length)), .at (.v (.int .i64 ((nearZ x p.at_).length))), .at (.v (.int .i64 (i : Nat)))] /\ es = [.box 0 x.ats, .box 0 r.ats, .box 0 p.ats, .arr 0 1 (out.map intRow), .arr 0 1 ((nearZ x p.at_).map intRow)] /\ mm + i = (nearZ x p.at_).length /\ out.length <= i /\ choicesZ x base r l p = out ++ ((nearZ x p.at_).drop i).filter fun c => decide (mayGoP x base r l p c)) ((nearZ x p.at_).length) ?_ ?_
 ·simp -implicitDefEqProofs only [go_sem]
  exact ⟨0, [], ⟨rfl, rfl⟩, rfl, by omega, by simp, by simp [choicesZ]⟩
 rintro q _ _ ⟨i, out, rfl, rfl, hn, ho, hs⟩
 simp -implicitDefEqProofs only [go_sem]
 refine ⟨fun hlt => ?_, fun hlt => ?_⟩
 ·refine ⟨by omega, by omega, fun c hcc => ?_⟩
  rw [drop_get hcc] at hs
  refine callX [] (impl_MayGo x base r l p c hx hl hc hp) (by simp -implicitDefEqProofs only [go_sem]) ?_
  simp -implicitDefEqProofs only [go_sem]
  refine ⟨fun hg => ?_, fun hg => ?_⟩
  ·rw [List.filter_cons, if_pos (decide_eq_true hg)] at hs
   exact ⟨room_s (by omega) (by decide), q - 1, by omega, i + 1, out ++ [c], ⟨by simp, wrapS (by omega) (by omega) (by omega)⟩, by simp [intRow], by omega, by simp; omega, by rw [hs]; simp⟩
  ·rw [List.filter_cons, if_neg (by rw [decide_eq_false hg]; decide)] at hs
   exact ⟨q - 1, by omega, i + 1, out, ⟨rfl, wrapS (by omega) (by omega) (by omega)⟩, rfl, by omega, by omega, hs⟩
 ·rw [drop_all hlt] at hs
  rw [hs, List.filter_nil, List.append_nil]
  exact ⟨rfl, rfl⟩
def mustP (x : DLand) (base : Int) (r : DRule) (l : List DDepot) (p : DParty) : Prop := (backP x base r l p /\ p.at_ ≠ base /\ ¬ mayWaitP x base r l p) /\ ∀ c ∈ choicesZ x base r l p, daysZ x c base < daysZ x p.at_ base
noncomputable instance (x : DLand) (base : Int) (r : DRule) (l : List DDepot) (p : DParty) : Decidable (mustP x base r l p) := Classical.propDecidable _
noncomputable def safeWayP (x : DLand) (base : Int) (r : DRule) (l : List DDepot) (p : DParty) (way : List Int) : Prop := backP x base r l p /\ 0 < way.length /\ way.getD 0 0 = p.at_ /\ (alongZ x base r l p (way.drop 1) : Int) = way.length - 1
noncomputable instance (x : DLand) (base : Int) (r : DRule) (l : List DDepot) (p : DParty) (way : List Int) : Decidable (safeWayP x base r l p way) := Classical.propDecidable _
end Go.Abs
namespace Go.Abs
open Go.RowKit Go.Proofs
set_option linter.all false
set_option maxRecDepth 100000
set_option maxHeartbeats 4000000
theorem homeW_top (r : DRule) (l : List DDepot) : ∀ (n : Nat) (p : DParty) (rest : List Int), 801 * rest.length + p.food.toNat <= n -> 0 <= p.food /\ p.food <= 10000 -> (homeW r l p rest).1 <= 10000 := by
 intro n
 induction n with
 | zero =>
  intro p rest h hf
  cases rest with
  | nil => rw [homeW_nil]; exact hf.2
  | cons c rest => simp only [List.length_cons] at h; omega
 | succ n ih =>
  intro p rest h hf
  cases rest with
  | nil => rw [homeW_nil]; exact hf.2
  | cons c rest =>
   by_cases he : eatP p
   ·have h1 := eat_food he
    by_cases hm : mayP r p.past
    ·have := storm_food he
     have h2 := ih (stormZ' p) (c :: rest) (by omega) (by show 0 <= (eatZ p).food /\ (eatZ p).food <= 10000; omega)
     rw [homeW_storm he hm]
     exact h2
    ·have := calm_food (l := l) (c := c) he
     have h3 := pick_food (p := { eatZ p with at_ := c }) (n := foodAt c l) (by show 0 <= (eatZ p).food /\ (eatZ p).food <= 10000; omega)
     simp only [List.length_cons] at h
     have h2 := ih (calmZ l p c) rest (by omega) (by show 0 <= (pickZ { eatZ p with at_ := c } (foodAt c l)).food /\ (pickZ { eatZ p with at_ := c } (foodAt c l)).food <= 10000; omega)
     rw [homeW_calm he hm]
     exact h2
   ·rw [homeW_none he]; decide
theorem leftZ_bnd (x : DLand) (base : Int) (r : DRule) (l : List DDepot) (p : DParty) : -1 <= leftZ x base r l p /\ leftZ x base r l p <= 10000 := by
 unfold leftZ
 split
 ·rename_i h
  have h1 := leftZ_pos.2 h
  rw [leftZ, if_pos h] at h1
  have hf := h.1.1.2.2.2.2.1
  have hk := pick_food (n := foodAt p.at_ l) hf
  have h2 := homeW_top r l _ (pickZ p (foodAt p.at_ l)) ((wayZ x p.at_ base).drop 1) (Nat.le_refl _) (by omega)
  exact ⟨by omega, h2⟩
 ·omega
theorem latestZ_bnd (x : DLand) (base : Int) (r : DRule) (l : List DDepot) (p : DParty) : latestZ x base r l p <= 100 := waitsF_le _ _
noncomputable def mostF (x : DLand) (base : Int) (r : DRule) (l : List DDepot) (p : DParty) : Nat -> Int
 | 0 => 0
 | n + 1 => if mayLayP x base r l p ((n + 1 : Nat) : Int) then ((n + 1 : Nat) : Int) else mostF x base r l p n
noncomputable def mostZ (x : DLand) (base : Int) (r : DRule) (l : List DDepot) (p : DParty) : Int := if backP x base r l p then mostF x base r l p p.food.toNat else 0
theorem mostF_bnd {x : DLand} {base : Int} {r : DRule} {l : List DDepot} {p : DParty} : ∀ n : Nat, 0 <= mostF x base r l p n /\ mostF x base r l p n <= n := by
 intro n
 induction n with
 | zero => exact ⟨Int.le_refl _, Int.le_refl _⟩
 | succ n ih => rw [mostF]; split <;> omega
theorem mostZ_bnd (x : DLand) (base : Int) (r : DRule) (l : List DDepot) (p : DParty) : 0 <= mostZ x base r l p /\ mostZ x base r l p <= 10000 := by
 unfold mostZ
 split
 ·rename_i h
  have hf := h.food
  have := mostF_bnd (x := x) (base := base) (r := r) (l := l) (p := p) p.food.toNat
  omega
 ·omega
theorem impl_MostToLay (x : DLand) (base : Int) (r : DRule) (l : List DDepot) (p : DParty) (hx : x.cells.length <= 1048576) (hl : l.length <= 1048576) (hc : p.crew.length <= 1048576) (hp : p.past.length <= 1048576) :
  SC Tryz.prog 90 [.ag x.ats, .at (.v (.int .i64 base)), .ag r.ats, .at (.im 2 (l.map DDepot.row)), .ag p.ats] [] (.at (.v (.int .i64 (mostZ x base r l p)))) [] := by
 refine SC.of_V mixed Tryz.func90 (by kernel_rfl) rfl Tryz.results90 _ Tryz.ntmps90 (by simp) ?_
 simp -implicitDefEqProofs only [go_sem]
 refine callX [] ((impl_home x base r l p hx hl hc).frozen) (by simp -implicitDefEqProofs only [go_sem]) ?_
 simp -implicitDefEqProofs only [go_sem]
 refine callX [] (impl_CanReturn x base r l p hx hl hc) (by simp -implicitDefEqProofs only [go_sem]) ?_
 simp -implicitDefEqProofs only [go_sem]
 refine ⟨fun h1 => by rw [mostZ, if_neg h1], fun h1 => ?_⟩
 have hf := h1.food
 have hv := h1.1.1
 have hwl := wayZ_len x p.at_ base
 rw [mostZ, if_pos h1, if_pos hv]
 refine T.loopW mixed [3, 5, 7, 9, 11, 12] (fun mm vs es => ∃ (n : Nat), vs = [.at (.im 2 (l.map DDepot.row)), .at (.bx 100 0 0), .at (.bx 101 0 0), .at (.bx 102 0 0), .at (.im 1 ((wayZ x p.at_ base).map intRow)), .at (.v (.int .i64 (n : Nat)))] /\ es = [.box 0 x.ats, .box 0 r.ats, .box 0 p.ats] /\ mm = n /\ n <= 10000 /\ (n : Int) <= p.food /\ mostF x base r l p p.food.toNat = mostF x base r l p n) p.food.toNat ?_ ?_
 ·simp -implicitDefEqProofs only [go_sem]
  exact ⟨p.food.toNat, by omega, rfl, by omega, by omega, rfl⟩
 rintro q _ _ ⟨n, rfl, rfl, hn, hn2, hnf, hm⟩
 simp -implicitDefEqProofs only [go_sem]
 refine ⟨fun hpos => ?_, fun hpos => ?_⟩
 ·obtain ⟨k, rfl⟩ : ∃ k, n = k + 1 := ⟨n - 1, by omega⟩
  have hll := layL_len (x := x) (l := l) (c := p.at_) (n := ((k + 1 : Nat) : Int)) hl (by omega)
  refine callX [] ((impl_Lay x l p.at_ ((k + 1 : Nat) : Int) hx hl).frozen) (by simp -implicitDefEqProofs only [go_sem]) ?_
  simp -implicitDefEqProofs only [go_sem]
  refine ⟨fun hy => ?_, fun hy => ?_⟩
  ·have hno : ¬ mayLayP x base r l p ((k + 1 : Nat) : Int) := fun h => hy h.2.1
   rw [mostF, if_neg hno] at hm
   exact ⟨k, by omega, k, by rw [wrap64 (by omega) (by omega)]; omega, rfl, by omega, by omega, hm⟩
  ·have hpast := hv.2.2.2.2.2
   have hbnd : 0 <= p.food - ((k + 1 : Nat) : Int) /\ p.food - ((k + 1 : Nat) : Int) <= 10000 := by omega
   have hB : backP x base r (layL x l p.at_ ((k + 1 : Nat) : Int)) { p with food := p.food - ((k + 1 : Nat) : Int) } ↔ (homeOf x base r (layL x l p.at_ ((k + 1 : Nat) : Int)) { p with food := p.food - ((k + 1 : Nat) : Int) }).2.2 = true := by
    refine ⟨fun h => h.2, fun h => ⟨⟨⟨hv.1, ?_, hv.2.2.1, hv.2.2.2.1, hbnd, hpast⟩, h1.1.2⟩, h⟩⟩
    rw [layL, if_pos hy]; exact hy.2.2
   refine ⟨some [], by decide +kernel, ?_⟩
   simp -implicitDefEqProofs only [go_sem]
   refine callXQ [] ((impl_less p ((k + 1 : Nat) : Int) hc hp (by unfold I64; omega)).frozen) (by simp -implicitDefEqProofs only [go_sem]) ?_
   simp -implicitDefEqProofs only [go_sem]
   refine callXQ [] (impl_worst (wayZ x p.at_ base) r (layL x l p.at_ ((k + 1 : Nat) : Int)) { p with food := p.food - ((k + 1 : Nat) : Int) } hwl hc hpast hbnd hll) (by simp -implicitDefEqProofs only [go_sem]) ?_
   simp -implicitDefEqProofs only [go_sem]
   refine ⟨fun hok => ?_, fun hok => ?_⟩
   ·have hyes : mayLayP x base r l p ((k + 1 : Nat) : Int) := ⟨⟨h1, by omega, hnf⟩, hy, hB.2 hok⟩
    rw [hm, mostF, if_pos hyes]
   ·have hno : ¬ mayLayP x base r l p ((k + 1 : Nat) : Int) := fun h => by
     have := hB.1 h.2.2
     unfold homeOf at this
     rw [this] at hok; cases hok
    rw [mostF, if_neg hno] at hm
    exact ⟨k, by omega, k, by rw [wrap64 (by omega) (by omega)]; omega, rfl, by omega, by omega, hm⟩
 ·obtain rfl : n = 0 := by omega
  rw [hm]; rfl
end Go.Abs
