import Derived.Test.YthobmgkagcampaaGreatDoorAHarn
namespace Go.Abs
open Go.RowKit Go.Proofs
set_option linter.all false
set_option maxRecDepth 100000
def EachTo {β : Type} (ok : Nat -> β -> Prop) (l : List β) (i : Nat) : Prop := ∀ (j : Nat) (m : β), j < i -> l[j]? = some m -> ok j m
def Each {β : Type} (ok : Nat -> β -> Prop) (l : List β) : Prop := ∀ (j : Nat) (m : β), l[j]? = some m -> ok j m
noncomputable instance {β : Type} (ok : Nat -> β -> Prop) (l : List β) : Decidable (Each ok l) := Classical.propDecidable _
section
variable {β : Type} {ok : Nat -> β -> Prop} {l : List β} {i : Nat} {m : β}
theorem each0 : EachTo ok l 0 := by intro j m h; omega
theorem eachS (h : EachTo ok l i) (hm : l[i]? = some m) (hk : ok i m) : EachTo ok l (i + 1) := by
 intro j x hj hx
 by_cases e : j = i
 ·subst e; rw [hm] at hx; cases hx; exact hk
 ·exact h j x (by omega) hx
theorem eachEnd (h : EachTo ok l i) (he : ¬ (i : Int) < l.length) : Each ok l := by
 intro j x hx
 have := (List.getElem?_eq_some_iff.1 hx).1
 exact h j x (by omega) hx
theorem eachNot (hm : l[i]? = some m) (hk : ¬ ok i m) : ¬ Each ok l := fun h => hk (h i m hm)
def sumT (f : β -> Int) (l : List β) (i : Nat) : Int := ((l.take i).map f).sum
def sumL (f : β -> Int) (l : List β) : Int := (l.map f).sum
variable {f : β -> Int}
theorem sum0 : sumT f l 0 = 0 := by simp [sumT]
theorem sumS (hm : l[i]? = some m) : sumT f l (i + 1) = sumT f l i + f m := by
 simp only [sumT, List.take_add_one, hm, Option.toList_some, List.map_append, List.map_cons, List.map_nil]
 rw [List.sum_append]; simp
theorem sumEnd (he : ¬ (i : Int) < l.length) : sumT f l i = sumL f l := by
 rw [sumT, List.take_of_length_le (by omega)]; rfl
theorem sum_list {l : List β} {B : Int} (h : ∀ x ∈ l, 0 <= f x /\ f x <= B) : 0 <= (l.map f).sum /\ (l.map f).sum <= B * l.length := by
 induction l with
 | nil => simp
 | cons x l ih =>
  have h1 := h x (by simp)
  have h2 := ih fun y hy => h y (by simp [hy])
  simp only [List.map_cons, List.sum_cons, List.length_cons]
  have : B * ((l.length + 1 : Nat) : Int) = B * l.length + B := by rw [Int.natCast_add, Int.mul_add]; simp
  omega
theorem sum_bound {B : Int} (h : ∀ x ∈ l, 0 <= f x /\ f x <= B) (hi : i <= l.length) : 0 <= sumT f l i /\ sumT f l i <= B * i := by
 have := sum_list (l := l.take i) fun x hx => h x (List.mem_of_mem_take hx)
 rwa [List.length_take, Nat.min_eq_left hi] at this
theorem sum_all {B : Int} (h : ∀ x ∈ l, 0 <= f x /\ f x <= B) : 0 <= sumL f l /\ sumL f l <= B * l.length := sum_list h
def outT {γ : Type} (g : β -> Option γ) (l : List β) (i : Nat) : List γ := (l.take i).filterMap g
theorem outS {γ : Type} {g : β -> Option γ} {y : γ} (hm : l[i]? = some m) (h : g m = some y) : outT g l (i + 1) = outT g l i ++ [y] := by
 simp only [outT, List.take_add_one, hm, Option.toList_some, List.filterMap_append, List.filterMap_cons, h, List.filterMap_nil]
theorem outN {γ : Type} {g : β -> Option γ} (hm : l[i]? = some m) (h : g m = none) : outT g l (i + 1) = outT g l i := by
 simp only [outT, List.take_add_one, hm, Option.toList_some, List.filterMap_append, List.filterMap_cons, h, List.filterMap_nil, List.append_nil]
theorem outEnd {γ : Type} {g : β -> Option γ} (he : ¬ (i : Int) < l.length) : outT g l i = l.filterMap g := by
 rw [outT, List.take_of_length_le (by omega)]
theorem out_len {γ : Type} {g : β -> Option γ} : (outT g l i).length <= i := by
 have := List.length_filterMap_le g (l.take i)
 rw [List.length_take] at this
 unfold outT; omega
end
theorem mem_get {β : Type} {l : List β} {x : β} {i : Nat} (h : l[i]? = some x) : x ∈ l := List.mem_of_getElem? h
theorem dec_f {p : Prop} [Decidable p] (h : ¬ p) : false = decide p := (decide_eq_false h).symm
theorem dec_t {p : Prop} [Decidable p] (h : p) : true = decide p := (decide_eq_true h).symm
theorem impl_InRange (n a b : Int) : SC Tryz.prog 107 [.at (.v (.int .i64 n)), .at (.v (.int .i64 a)), .at (.v (.int .i64 b))] [] (.at (.v (.bool (decide (a <= n /\ n <= b))))) [] := by
 refine SC.of_V mixed Tryz.func107 (by kernel_rfl) rfl Tryz.results107 _ Tryz.ntmps107 (by simp) ?_
 simp -implicitDefEqProofs only [go_sem]
 grind
theorem spec_l1In (n a b : Int) : SC Tryz.prog 122 [.at (.v (.int .i64 n)), .at (.v (.int .i64 a)), .at (.v (.int .i64 b))] [] (.at (.v (.bool (decide (a <= n /\ n <= b))))) [] := by
 refine SC.of_V mixed Tryz.func122 (by kernel_rfl) rfl Tryz.results122 _ Tryz.ntmps122 (by simp) ?_
 simp -implicitDefEqProofs only [go_sem]
 grind
theorem spec_Min (a b : Int) : SC Tryz.prog 292 [.at (.v (.int .i64 a)), .at (.v (.int .i64 b))] [] (.at (.v (.int .i64 (min a b)))) [] := by
 refine SC.of_V mixed Tryz.func292 (by kernel_rfl) rfl Tryz.results292 _ Tryz.ntmps292 (by simp) ?_
 simp -implicitDefEqProofs only [go_sem]
 omega
theorem spec_Max (a b : Int) : SC Tryz.prog 164 [.at (.v (.int .i64 a)), .at (.v (.int .i64 b))] [] (.at (.v (.int .i64 (max a b)))) [] := by
 refine SC.of_V mixed Tryz.func164 (by kernel_rfl) rfl Tryz.results164 _ Tryz.ntmps164 (by simp) ?_
 simp -implicitDefEqProofs only [go_sem]
 omega
theorem impl_size (a : Int) (h : I64 a) (h2 : -9223372036854775808 < a) : SC Tryz.prog 299 [.at (.v (.int .i64 a))] [] (.at (.v (.int .i64 (max a (-a))))) [] := by
 unfold I64 at h
 refine SC.of_V mixed Tryz.func299 (by kernel_rfl) rfl Tryz.results299 _ Tryz.ntmps299 (by simp) ?_
 simp -implicitDefEqProofs only [go_sem]
 rw [wrap64 (by omega) (by omega)]
 omega
def modZ (p q : Int) : Int := if 1 <= q /\ q <= 1000000000000 then p % q else 0
theorem mod_two {p q : Int} (h : 1 <= q) : (p.tmod q + q).tmod q = p % q := by
 have h1 : -q < p.tmod q /\ p.tmod q < q := ⟨Int.lt_tmod_of_pos p (by omega), Int.tmod_lt_of_pos p (by omega)⟩
 have h2 : (p.tmod q + q).tmod q = (p.tmod q + q) % q := Int.tmod_eq_emod_of_nonneg (by omega)
 rw [h2, Int.add_emod_right]
 have h3 : p = q * p.tdiv q + p.tmod q := (Int.mul_tdiv_add_tmod p q).symm
 conv => rhs; rw [h3]
 rw [Int.add_comm, Int.add_mul_emod_self_left]
theorem impl_Mod (p q : Int) (hp : I64 p) : SC Tryz.prog 333 [.at (.v (.int .i64 p)), .at (.v (.int .i64 q))] [] (.at (.v (.int .i64 (modZ p q)))) [] := by
 refine SC.of_V mixed Tryz.func333 (by kernel_rfl) rfl Tryz.results333 _ Tryz.ntmps333 (by simp) ?_
 simp -implicitDefEqProofs only [go_sem]
 refine callX [] (impl_InRange q 1 1000000000000) (by simp -implicitDefEqProofs only [go_sem]) ?_
 simp -implicitDefEqProofs only [go_sem]
 refine ⟨fun h => by rw [modZ, if_neg h], fun h => ⟨by omega, by omega, ?_⟩⟩
 have h1 := Int.lt_tmod_of_pos p (show 0 < q by omega)
 have h2 := Int.tmod_lt_of_pos p (show 0 < q by omega)
 rw [wrap64 (by omega) (by omega), mod_two h.1, modZ, if_pos h]
theorem spec_Mod (p q : Int) (hp : I64 p) : SC Tryz.prog 327 [.at (.v (.int .i64 p)), .at (.v (.int .i64 q))] [] (.at (.v (.int .i64 (modZ p q)))) [] := by
 refine SC.of_V mixed Tryz.func327 (by kernel_rfl) rfl Tryz.results327 _ Tryz.ntmps327 (by simp) ?_
 simp -implicitDefEqProofs only [go_sem]
 refine callX [] (spec_l1In q 1 1000000000000) (by simp -implicitDefEqProofs only [go_sem]) ?_
 simp -implicitDefEqProofs only [go_sem]
 refine ⟨fun h => by rw [modZ, if_neg h], fun h => ⟨by omega, by omega, ?_⟩⟩
 have h1 := Int.lt_tmod_of_pos p (show 0 < q by omega)
 have h2 := Int.tmod_lt_of_pos p (show 0 < q by omega)
 rw [wrap64 (by omega) (by omega), mod_two h.1, modZ, if_pos h]
theorem impl_allIn (l : List Int) (a b : Int) (hl : l.length <= 1048576) : SC Tryz.prog 108 [.at (.im 1 (l.map intRow)), .at (.v (.int .i64 a)), .at (.v (.int .i64 b))] [] (.at (.v (.bool (decide (Each (fun _ n => a <= n /\ n <= b) l))))) [] := by
 refine SC.of_V mixed Tryz.func108 (by kernel_rfl) rfl Tryz.results108 _ Tryz.ntmps108 (by simp) ?_
 simp -implicitDefEqProofs only [go_sem]
 refine T.loopW mixed [1, 2, 9, 10, 11] (fun mm vs es => ∃ (i : Nat), vs = [.at (.v (.int .i64 a)), .at (.v (.int .i64 b)), .at (.im 1 (l.map intRow)), .at (.v (.int .i64 l.length)), .at (.v (.int .i64 i))] /\ es = [] /\ mm + i = l.length /\ EachTo (fun _ n => a <= n /\ n <= b) l i) l.length ?_ ?_
 ·simp -implicitDefEqProofs only [go_sem]; exact ⟨0, rfl, by omega, each0⟩
 rintro n _ _ ⟨i, rfl, rfl, hn, hi⟩
 simp -implicitDefEqProofs only [go_sem]
 refine ⟨fun h => ⟨by omega, fun x hx => ?_⟩, fun h => dec_t (eachEnd hi h)⟩
 refine callX [] (impl_InRange x a b) (by simp -implicitDefEqProofs only [go_sem]) ?_
 simp -implicitDefEqProofs only [go_sem]
 refine ⟨fun h => dec_f (eachNot hx h), fun h => ?_⟩
 rw [wrap64 (by omega) (by omega)]
 exact ⟨n - 1, by omega, i + 1, rfl, by omega, eachS hi hx h⟩
end Go.Abs
namespace Go.Abs
open Go.RowKit Go.Proofs
set_option linter.all false
set_option maxRecDepth 100000
def DLand.Ok (x : DLand) : Prop := (1 <= x.w /\ x.w <= 8) /\ (1 <= x.h /\ x.h <= 8) /\ (x.cells.length : Int) = x.w * x.h /\ Each (fun _ n => 0 <= n /\ n <= 2) x.cells
noncomputable instance (x : DLand) : Decidable x.Ok := Classical.propDecidable _
def DLand.Cell (x : DLand) (n : Int) : Prop := x.Ok /\ 0 <= n /\ n < x.cells.length
noncomputable instance (x : DLand) (n : Int) : Decidable (x.Cell n) := Classical.propDecidable _
def DLand.at (x : DLand) (n : Int) : Int := x.cells.getD n.toNat 0
def DLand.Open (x : DLand) (n : Int) : Prop := x.Cell n /\ x.at n ≠ 2
noncomputable instance (x : DLand) (n : Int) : Decidable (x.Open n) := Classical.propDecidable _
theorem mul_small {a b : Int} (h1 : 1 <= a /\ a <= 8) (h2 : 1 <= b /\ b <= 8) : 1 <= a * b /\ a * b <= 64 /\ a <= a * b := by
 obtain ⟨h1, h3⟩ := h1
 have : a = 1 \/ a = 2 \/ a = 3 \/ a = 4 \/ a = 5 \/ a = 6 \/ a = 7 \/ a = 8 := by omega
 rcases this with rfl | rfl | rfl | rfl | rfl | rfl | rfl | rfl <;> omega
theorem DLand.Ok.len {x : DLand} (h : x.Ok) : 1 <= x.cells.length /\ x.cells.length <= 64 := by
 have := mul_small h.1 h.2.1
 have := h.2.2.1
 omega
theorem at_get {x : DLand} {n : Int} {c : Int} (h : x.cells[n.toNat]? = some c) : x.at n = c := by
 rw [DLand.at, List.getD_eq_getElem?_getD, h]; rfl
theorem impl_IsLand (x : DLand) (hl : x.cells.length <= 1048576) : SC Tryz.prog 35 [.ag x.ats] [] (.at (.v (.bool (decide x.Ok)))) [] := by
 refine SC.of_V mixed Tryz.func35 (by kernel_rfl) rfl Tryz.results35 _ Tryz.ntmps35 (by simp) ?_
 simp -implicitDefEqProofs only [go_sem]
 refine callX [] (impl_InRange x.w 1 8) (by simp -implicitDefEqProofs only [go_sem]) ?_
 simp -implicitDefEqProofs only [go_sem]
 refine ⟨fun h1 => ?_, fun h1 => dec_f (fun h => h1 h.1)⟩
 refine callX [] (impl_InRange x.h 1 8) (by simp -implicitDefEqProofs only [go_sem]) ?_
 simp -implicitDefEqProofs only [go_sem]
 refine ⟨fun h2 => ?_, fun h2 => dec_f (fun h => h2 h.2.1)⟩
 have := mul_small h1 h2
 rw [wrap64 (by omega) (by omega)]
 refine ⟨fun h3 => ?_, fun h3 => dec_f (fun h => h3 h.2.2.1)⟩
 refine callX [] (impl_allIn x.cells 0 2 hl) (by simp -implicitDefEqProofs only [go_sem]) ?_
 simp -implicitDefEqProofs only [go_sem]
 exact decide_eq_decide.2 ⟨fun h => ⟨h1, h2, h3, h⟩, fun h => h.2.2.2⟩
theorem spec_IsLand (x : DLand) (hl : x.cells.length <= 1048576) : SC Tryz.prog 220 [.ag x.ats] [] (.at (.v (.bool (decide x.Ok)))) [] := by
 refine SC.of_V mixed Tryz.func220 (by kernel_rfl) rfl Tryz.results220 _ Tryz.ntmps220 (by simp) ?_
 simp -implicitDefEqProofs only [go_sem]
 refine callX [] (spec_l1In x.w 1 8) (by simp -implicitDefEqProofs only [go_sem]) ?_
 simp -implicitDefEqProofs only [go_sem]
 refine ⟨fun h1 => ?_, fun h1 => dec_f (fun h => h1 h.1)⟩
 refine callX [] (spec_l1In x.h 1 8) (by simp -implicitDefEqProofs only [go_sem]) ?_
 simp -implicitDefEqProofs only [go_sem]
 refine ⟨fun h2 => ?_, fun h2 => dec_f (fun h => h2 h.2.1)⟩
 have := mul_small h1 h2
 rw [wrap64 (by omega) (by omega)]
 refine ⟨fun h3 => dec_f (fun h => h3 h.2.2.1), fun h3 => ?_⟩
 refine T.loopW mixed [1, 3] (fun mm vs es => ∃ (i : Nat), vs = [.at (.bx 100 0 0), .at (.v (.int .i64 i))] /\ es = [.box 0 x.ats] /\ mm + i = x.cells.length /\ EachTo (fun _ n => 0 <= n /\ n <= 2) x.cells i) x.cells.length ?_ ?_
 ·simp -implicitDefEqProofs only [go_sem]; exact ⟨0, rfl, by omega, each0⟩
 rintro n _ _ ⟨i, rfl, rfl, hn, hi⟩
 simp -implicitDefEqProofs only [go_sem]
 refine ⟨fun h => ⟨by omega, fun c hc => ?_⟩, fun h => dec_t ⟨h1, h2, h3, eachEnd hi h⟩⟩
 refine callX [] (spec_l1In c 0 2) (by simp -implicitDefEqProofs only [go_sem]) ?_
 simp -implicitDefEqProofs only [go_sem]
 refine ⟨fun hk => dec_f fun h => eachNot hc hk h.2.2.2, fun hk => ?_⟩
 rw [wrap64 (by omega) (by omega)]
 exact ⟨n - 1, by omega, i + 1, rfl, by omega, eachS hi hc hk⟩
theorem impl_IsCell (x : DLand) (n : Int) (hl : x.cells.length <= 1048576) : SC Tryz.prog 186 [.ag x.ats, .at (.v (.int .i64 n))] [] (.at (.v (.bool (decide (x.Cell n))))) [] := by
 refine SC.of_V mixed Tryz.func186 (by kernel_rfl) rfl Tryz.results186 _ Tryz.ntmps186 (by simp) ?_
 simp -implicitDefEqProofs only [go_sem]
 refine callX [] (impl_IsLand x hl) (by simp -implicitDefEqProofs only [go_sem]) ?_
 simp -implicitDefEqProofs only [go_sem]
 refine ⟨fun h1 => ?_, fun h1 => dec_f (fun h => h1 h.1)⟩
 rw [wrap64 (by omega) (by omega)]
 refine callX [] (impl_InRange n 0 (x.cells.length - 1)) (by simp -implicitDefEqProofs only [go_sem]) ?_
 simp -implicitDefEqProofs only [go_sem]
 refine decide_eq_decide.2 ⟨fun h => ⟨h1, h.1, by omega⟩, fun h => ⟨h.2.1, by have := h.2.2; omega⟩⟩
theorem spec_IsCell (x : DLand) (n : Int) (hl : x.cells.length <= 1048576) : SC Tryz.prog 232 [.ag x.ats, .at (.v (.int .i64 n))] [] (.at (.v (.bool (decide (x.Cell n))))) [] := by
 refine SC.of_V mixed Tryz.func232 (by kernel_rfl) rfl Tryz.results232 _ Tryz.ntmps232 (by simp) ?_
 simp -implicitDefEqProofs only [go_sem]
 refine callX [] (spec_IsLand x hl) (by simp -implicitDefEqProofs only [go_sem]) ?_
 simp -implicitDefEqProofs only [go_sem]
 refine ⟨fun h1 => ?_, fun h1 => dec_f (fun h => h1 h.1)⟩
 rw [wrap64 (by omega) (by omega)]
 refine callX [] (spec_l1In n 0 (x.cells.length - 1)) (by simp -implicitDefEqProofs only [go_sem]) ?_
 simp -implicitDefEqProofs only [go_sem]
 refine decide_eq_decide.2 ⟨fun h => ⟨h1, h.1, by omega⟩, fun h => ⟨h.2.1, by have := h.2.2; omega⟩⟩
theorem impl_IsOpen (x : DLand) (n : Int) (hl : x.cells.length <= 1048576) : SC Tryz.prog 256 [.ag x.ats, .at (.v (.int .i64 n))] [] (.at (.v (.bool (decide (x.Open n))))) [] := by
 refine SC.of_V mixed Tryz.func256 (by kernel_rfl) rfl Tryz.results256 _ Tryz.ntmps256 (by simp) ?_
 simp -implicitDefEqProofs only [go_sem]
 refine callX [] (impl_IsCell x n hl) (by simp -implicitDefEqProofs only [go_sem]) ?_
 simp -implicitDefEqProofs only [go_sem]
 refine ⟨fun h1 => ⟨⟨h1.2.1, h1.2.2⟩, fun c hc => ?_⟩, fun h1 => dec_f (fun h => h1 h.1)⟩
 rw [<- at_get hc]
 simp [DLand.Open, h1]
theorem spec_IsOpen (x : DLand) (n : Int) (hl : x.cells.length <= 1048576) : SC Tryz.prog 294 [.ag x.ats, .at (.v (.int .i64 n))] [] (.at (.v (.bool (decide (x.Open n))))) [] := by
 refine SC.of_V mixed Tryz.func294 (by kernel_rfl) rfl Tryz.results294 _ Tryz.ntmps294 (by simp) ?_
 simp -implicitDefEqProofs only [go_sem]
 refine callX [] (spec_IsCell x n hl) (by simp -implicitDefEqProofs only [go_sem]) ?_
 simp -implicitDefEqProofs only [go_sem]
 refine ⟨fun h1 => ⟨⟨h1.2.1, h1.2.2⟩, fun c hc => ?_⟩, fun h1 => dec_f (fun h => h1 h.1)⟩
 rw [<- at_get hc]
 simp [DLand.Open, h1]
def DLand.apart (x : DLand) (a b : Int) : Int := (max (a % x.w - b % x.w) (b % x.w - a % x.w)) + max (a / x.w - b / x.w) (b / x.w - a / x.w)
noncomputable def DLand.apartZ (x : DLand) (a b : Int) : Int := if x.Cell a /\ x.Cell b then x.apart a b else -1
theorem DLand.Cell.div {x : DLand} {a : Int} (h : x.Cell a) : 0 <= a % x.w /\ a % x.w < x.w /\ 0 <= a / x.w /\ a / x.w < x.h /\ a.tmod x.w = a % x.w /\ a.tdiv x.w = a / x.w /\ x.w ≠ 0 := by
 obtain ⟨⟨h1, h2, h3, _⟩, h4, h5⟩ := h
 refine ⟨Int.emod_nonneg _ (by omega), Int.emod_lt_of_pos _ (by omega), Int.ediv_nonneg h4 (by omega), ?_, Int.tmod_eq_emod_of_nonneg h4, Int.tdiv_eq_ediv_of_nonneg h4, by omega⟩
 exact Int.ediv_lt_of_lt_mul (by omega) (by rw [Int.mul_comm]; omega)
theorem impl_Apart (x : DLand) (a b : Int) (hl : x.cells.length <= 1048576) : SC Tryz.prog 257 [.ag x.ats, .at (.v (.int .i64 a)), .at (.v (.int .i64 b))] [] (.at (.v (.int .i64 (x.apartZ a b)))) [] := by
 refine SC.of_V mixed Tryz.func257 (by kernel_rfl) rfl Tryz.results257 _ Tryz.ntmps257 (by simp) ?_
 simp -implicitDefEqProofs only [go_sem]
 refine callX [] (impl_IsCell x a hl) (by simp -implicitDefEqProofs only [go_sem]) ?_
 simp -implicitDefEqProofs only [go_sem]
 refine ⟨fun h1 => ?_, fun h1 => by rw [DLand.apartZ, if_neg (fun h => h1 h.1)]⟩
 refine callX [] (impl_IsCell x b hl) (by simp -implicitDefEqProofs only [go_sem]) ?_
 simp -implicitDefEqProofs only [go_sem]
 refine ⟨fun h2 => by rw [DLand.apartZ, if_neg (fun h => h2 h.2)], fun h2 => ?_⟩
 obtain ⟨a1, a2, a3, a4, a5, a6, a7⟩ := h1.div
 obtain ⟨b1, b2, b3, b4, b5, b6, b7⟩ := h2.div
 obtain ⟨⟨w1, w2⟩, ⟨w3, w4⟩, _⟩ := h1.1
 have e1 : a / x.w < 8 := by omega
 have e2 : b / x.w < 8 := by omega
 have ez : x.apartZ a b = x.apart a b := by rw [DLand.apartZ, if_pos ⟨h1, h2⟩]
 rw [ez, DLand.apart]
 refine ⟨some [], by decide +kernel, ?_⟩
 simp -implicitDefEqProofs only [go_sem]
 simp only [a5, a6, b5, b6]
 generalize a % x.w = p at *
 generalize b % x.w = q at *
 generalize a / x.w = r at *
 generalize b / x.w = s at *
 simp (disch := omega) only [wrap64, a7, not_false_eq_true, true_and, and_true, ne_eq]
 refine callXQ [] (impl_size (p - q) (by unfold I64; omega) (by omega)) (by simp -implicitDefEqProofs only [go_sem]) ?_
 simp -implicitDefEqProofs only [go_sem]
 simp (disch := omega) only [wrap64, a6, b6, a7, not_false_eq_true, true_and, and_true, ne_eq]
 refine callXQ [] (impl_size (r - s) (by unfold I64; omega) (by omega)) (by simp -implicitDefEqProofs only [go_sem]) ?_
 simp -implicitDefEqProofs only [go_sem]
 rw [wrap64 (by omega) (by omega)]
 try omega
end Go.Abs
