/- Whole numbers and lists of them: the small functions of both sides. -/
import Derived.Test.YthobmgkagcampaaGreatDoorAData
import Derived.Test.YthobmgkagcampaaGreatDoorALibC
namespace Go.Abs
open Go.RowKit Go.Proofs
set_option linter.all false
set_option maxRecDepth 100000
theorem drop_all {β : Type} {l : List β} {i : Nat} (h : ¬ (i : Int) < l.length) : l.drop i = [] := List.drop_of_length_le (by omega)
theorem eq_step {β : Type} [DecidableEq β] {a b : List β} {i : Nat} {p q : β} (ht : a.take i = b.take i) (hp : a[i]? = some p) (hq : b[i]? = some q) (h : p = q) : a.take (i + 1) = b.take (i + 1) := by
 rw [List.take_add_one, List.take_add_one, ht, hp, hq, h]
theorem eq_end {β : Type} [DecidableEq β] {a b : List β} {i : Nat} (hl : a.length = b.length) (ht : a.take i = b.take i) (h : ¬ (i : Int) < a.length) : a = b := by
 rw [List.take_of_length_le (by omega), List.take_of_length_le (by omega)] at ht; exact ht
theorem ne_step {β : Type} {a b : List β} {i : Nat} {p q : β} (hp : a[i]? = some p) (hq : b[i]? = some q) (h : p ≠ q) : a ≠ b := by
 rintro rfl; rw [hp] at hq; exact h (by simpa using hq)
def markInt (k : Int) : List Value := [.int .i64 k]
attribute [go_sem] markInt
def markBool (k : Int) : List Value := [.bool (decide (k.tmod 3 = 0))]
attribute [go_sem] markBool
def markPage (k : Int) : List Value := [.int .i64 k, .int .i64 (k + 1), .int .i64 (k + 2), .int .i64 (k + 3)]
attribute [go_sem] markPage
def markEvent (k : Int) : List Value := [.int .i64 k, .int .i64 (k + 1), .bool (decide (Int.tmod (k + 2) 3 = 0))]
attribute [go_sem] markEvent
def markMember (k : Int) : List Value := [.int .i64 k, .int .i64 (k + 1), .int .i64 (k + 2), .bool (decide (Int.tmod (k + 3) 3 = 0))]
attribute [go_sem] markMember
def markDepot (k : Int) : List Value := [.int .i64 k, .int .i64 (k + 1)]
attribute [go_sem] markDepot
end Go.Abs
namespace Go.Abs
open Go.RowKit Go.Proofs
set_option linter.all false
set_option maxRecDepth 100000
def EachTo {β : Type} (ok : Nat -> β -> Prop) (l : List β) (i : Nat) : Prop := ∀ (j : Nat) (m : β), j < i -> l[j]? = some m -> ok j m
def Each {β : Type} (ok : Nat -> β -> Prop) (l : List β) : Prop := ∀ (j : Nat) (m : β), l[j]? = some m -> ok j m
noncomputable instance {β : Type} (ok : Nat -> β -> Prop) (l : List β) : Decidable (Each ok l) := Classical.propDecidable _
section
variable {β : Type} {ok : Nat -> β -> Prop} {l : List β} {i : Nat} {m : β}
theorem each0 : EachTo ok l 0 := by intro j m h; omega
theorem eachS (h : EachTo ok l i) (hm : l[i]? = some m) (hk : ok i m) : EachTo ok l (i + 1) := by
 intro j x hj hx
 by_cases e : j = i
 ·subst e; rw [hm] at hx; cases hx; exact hk
 ·exact h j x (by omega) hx
theorem eachEnd (h : EachTo ok l i) (he : ¬ (i : Int) < l.length) : Each ok l := by
 intro j x hx
 have := (List.getElem?_eq_some_iff.1 hx).1
 exact h j x (by omega) hx
theorem eachNot (hm : l[i]? = some m) (hk : ¬ ok i m) : ¬ Each ok l := fun h => hk (h i m hm)
def sumT (f : β -> Int) (l : List β) (i : Nat) : Int := ((l.take i).map f).sum
def sumL (f : β -> Int) (l : List β) : Int := (l.map f).sum
variable {f : β -> Int}
theorem sum0 : sumT f l 0 = 0 := by simp [sumT]
theorem sumS (hm : l[i]? = some m) : sumT f l (i + 1) = sumT f l i + f m := by
 simp only [sumT, List.take_add_one, hm, Option.toList_some, List.map_append, List.map_cons, List.map_nil]
 rw [List.sum_append]; simp
theorem sumEnd (he : ¬ (i : Int) < l.length) : sumT f l i = sumL f l := by
 rw [sumT, List.take_of_length_le (by omega)]; rfl
theorem sum_list {l : List β} {B : Int} (h : ∀ x ∈ l, 0 <= f x /\ f x <= B) : 0 <= (l.map f).sum /\ (l.map f).sum <= B * l.length := by
 induction l with
 | nil => simp
 | cons x l ih =>
  have h1 := h x (by simp)
  have h2 := ih fun y hy => h y (by simp [hy])
  simp only [List.map_cons, List.sum_cons, List.length_cons]
  have : B * ((l.length + 1 : Nat) : Int) = B * l.length + B := by rw [Int.natCast_add, Int.mul_add]; simp
  omega
theorem sum_bound {B : Int} (h : ∀ x ∈ l, 0 <= f x /\ f x <= B) (hi : i <= l.length) : 0 <= sumT f l i /\ sumT f l i <= B * i := by
 have := sum_list (l := l.take i) fun x hx => h x (List.mem_of_mem_take hx)
 rwa [List.length_take, Nat.min_eq_left hi] at this
theorem sum_all {B : Int} (h : ∀ x ∈ l, 0 <= f x /\ f x <= B) : 0 <= sumL f l /\ sumL f l <= B * l.length := sum_list h
def outT {γ : Type} (g : β -> Option γ) (l : List β) (i : Nat) : List γ := (l.take i).filterMap g
theorem outS {γ : Type} {g : β -> Option γ} {y : γ} (hm : l[i]? = some m) (h : g m = some y) : outT g l (i + 1) = outT g l i ++ [y] := by
 simp only [outT, List.take_add_one, hm, Option.toList_some, List.filterMap_append, List.filterMap_cons, h, List.filterMap_nil]
theorem outN {γ : Type} {g : β -> Option γ} (hm : l[i]? = some m) (h : g m = none) : outT g l (i + 1) = outT g l i := by
 simp only [outT, List.take_add_one, hm, Option.toList_some, List.filterMap_append, List.filterMap_cons, h, List.filterMap_nil, List.append_nil]
theorem outEnd {γ : Type} {g : β -> Option γ} (he : ¬ (i : Int) < l.length) : outT g l i = l.filterMap g := by
 rw [outT, List.take_of_length_le (by omega)]
theorem out_len {γ : Type} {g : β -> Option γ} : (outT g l i).length <= i := by
 have := List.length_filterMap_le g (l.take i)
 rw [List.length_take] at this
 unfold outT; omega
end
theorem mem_get {β : Type} {l : List β} {x : β} {i : Nat} (h : l[i]? = some x) : x ∈ l := List.mem_of_getElem? h
theorem dec_f {p : Prop} [Decidable p] (h : ¬ p) : false = decide p := (decide_eq_false h).symm
theorem dec_t {p : Prop} [Decidable p] (h : p) : true = decide p := (decide_eq_true h).symm
theorem impl_InRange (n a b : Int) : SC Tryz.prog 107 [.at (.v (.int .i64 n)), .at (.v (.int .i64 a)), .at (.v (.int .i64 b))] [] (.at (.v (.bool (decide (a <= n /\ n <= b))))) [] := by
 refine SC.of_V mixed Tryz.func107 (by kernel_rfl) rfl Tryz.results107 _ Tryz.ntmps107 (by simp) ?_
 simp -implicitDefEqProofs only [go_sem]
 grind
theorem spec_l1In (n a b : Int) : SC Tryz.prog 122 [.at (.v (.int .i64 n)), .at (.v (.int .i64 a)), .at (.v (.int .i64 b))] [] (.at (.v (.bool (decide (a <= n /\ n <= b))))) [] := by
 refine SC.of_V mixed Tryz.func122 (by kernel_rfl) rfl Tryz.results122 _ Tryz.ntmps122 (by simp) ?_
 simp -implicitDefEqProofs only [go_sem]
 grind
theorem spec_Min (a b : Int) : SC Tryz.prog 292 [.at (.v (.int .i64 a)), .at (.v (.int .i64 b))] [] (.at (.v (.int .i64 (min a b)))) [] := by
 refine SC.of_V mixed Tryz.func292 (by kernel_rfl) rfl Tryz.results292 _ Tryz.ntmps292 (by simp) ?_
 simp -implicitDefEqProofs only [go_sem]
 omega
theorem spec_Max (a b : Int) : SC Tryz.prog 164 [.at (.v (.int .i64 a)), .at (.v (.int .i64 b))] [] (.at (.v (.int .i64 (max a b)))) [] := by
 refine SC.of_V mixed Tryz.func164 (by kernel_rfl) rfl Tryz.results164 _ Tryz.ntmps164 (by simp) ?_
 simp -implicitDefEqProofs only [go_sem]
 omega
theorem impl_size (a : Int) (h : I64 a) (h2 : -9223372036854775808 < a) : SC Tryz.prog 299 [.at (.v (.int .i64 a))] [] (.at (.v (.int .i64 (max a (-a))))) [] := by
 unfold I64 at h
 refine SC.of_V mixed Tryz.func299 (by kernel_rfl) rfl Tryz.results299 _ Tryz.ntmps299 (by simp) ?_
 simp -implicitDefEqProofs only [go_sem]
 rw [wrap64 (by omega) (by omega)]
 omega
def modZ (p q : Int) : Int := if 1 <= q /\ q <= 1000000000000 then p % q else 0
theorem mod_two {p q : Int} (h : 1 <= q) : (p.tmod q + q).tmod q = p % q := by
 have h1 : -q < p.tmod q /\ p.tmod q < q := ⟨Int.lt_tmod_of_pos p (by omega), Int.tmod_lt_of_pos p (by omega)⟩
 have h2 : (p.tmod q + q).tmod q = (p.tmod q + q) % q := Int.tmod_eq_emod_of_nonneg (by omega)
 rw [h2, Int.add_emod_right]
 have h3 : p = q * p.tdiv q + p.tmod q := (Int.mul_tdiv_add_tmod p q).symm
 conv => rhs; rw [h3]
 rw [Int.add_comm, Int.add_mul_emod_self_left]
theorem impl_Mod (p q : Int) (hp : I64 p) : SC Tryz.prog 333 [.at (.v (.int .i64 p)), .at (.v (.int .i64 q))] [] (.at (.v (.int .i64 (modZ p q)))) [] := by
 refine SC.of_V mixed Tryz.func333 (by kernel_rfl) rfl Tryz.results333 _ Tryz.ntmps333 (by simp) ?_
 simp -implicitDefEqProofs only [go_sem]
 refine callX [] (impl_InRange q 1 1000000000000) (by simp -implicitDefEqProofs only [go_sem]) ?_
 simp -implicitDefEqProofs only [go_sem]
 refine ⟨fun h => by rw [modZ, if_neg h], fun h => ⟨by omega, by omega, ?_⟩⟩
 have h1 := Int.lt_tmod_of_pos p (show 0 < q by omega)
 have h2 := Int.tmod_lt_of_pos p (show 0 < q by omega)
 rw [wrap64 (by omega) (by omega), mod_two h.1, modZ, if_pos h]
theorem spec_Mod (p q : Int) (hp : I64 p) : SC Tryz.prog 327 [.at (.v (.int .i64 p)), .at (.v (.int .i64 q))] [] (.at (.v (.int .i64 (modZ p q)))) [] := by
 refine SC.of_V mixed Tryz.func327 (by kernel_rfl) rfl Tryz.results327 _ Tryz.ntmps327 (by simp) ?_
 simp -implicitDefEqProofs only [go_sem]
 refine callX [] (spec_l1In q 1 1000000000000) (by simp -implicitDefEqProofs only [go_sem]) ?_
 simp -implicitDefEqProofs only [go_sem]
 refine ⟨fun h => by rw [modZ, if_neg h], fun h => ⟨by omega, by omega, ?_⟩⟩
 have h1 := Int.lt_tmod_of_pos p (show 0 < q by omega)
 have h2 := Int.tmod_lt_of_pos p (show 0 < q by omega)
 rw [wrap64 (by omega) (by omega), mod_two h.1, modZ, if_pos h]
theorem impl_allIn (l : List Int) (a b : Int) (hl : l.length <= 1048576) : SC Tryz.prog 108 [.at (.im 1 (l.map intRow)), .at (.v (.int .i64 a)), .at (.v (.int .i64 b))] [] (.at (.v (.bool (decide (Each (fun _ n => a <= n /\ n <= b) l))))) [] := by
 refine SC.of_V mixed Tryz.func108 (by kernel_rfl) rfl Tryz.results108 _ Tryz.ntmps108 (by simp) ?_
 simp -implicitDefEqProofs only [go_sem]
 refine T.loopW mixed [1, 2, 9, 10, 11] (fun mm vs es => ∃ (i : Nat), vs = [.at (.v (.int .i64 a)), .at (.v (.int .i64 b)), .at (.im 1 (l.map intRow)), .at (.v (.int .i64 l.length)), .at (.v (.int .i64 i))] /\ es = [] /\ mm + i = l.length /\ EachTo (fun _ n => a <= n /\ n <= b) l i) l.length ?_ ?_
 ·simp -implicitDefEqProofs only [go_sem]; exact ⟨0, rfl, by omega, each0⟩
 rintro n _ _ ⟨i, rfl, rfl, hn, hi⟩
 simp -implicitDefEqProofs only [go_sem]
 refine ⟨fun h => ⟨by omega, fun x hx => ?_⟩, fun h => dec_t (eachEnd hi h)⟩
 refine callX [] (impl_InRange x a b) (by simp -implicitDefEqProofs only [go_sem]) ?_
 simp -implicitDefEqProofs only [go_sem]
 refine ⟨fun h => dec_f (eachNot hx h), fun h => ?_⟩
 rw [wrap64 (by omega) (by omega)]
 exact ⟨n - 1, by omega, i + 1, rfl, by omega, eachS hi hx h⟩
end Go.Abs
