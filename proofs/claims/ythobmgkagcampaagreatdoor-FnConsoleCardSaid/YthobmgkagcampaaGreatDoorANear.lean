/- The cells next to a cell. -/
import Derived.Test.YthobmgkagcampaaGreatDoorAWayZ
namespace Go.Abs
open Go.RowKit Go.Proofs Go.Shelf
set_option linter.all false
set_option maxRecDepth 100000
def renC : Ren := ⟨fun f => if f = 20 then 258 else f, fun t => if t = 22 then 24 else if t = 3 then 3 else if t = 4 then 4 else if t = 0 then 0 else t, fun g => g⟩
theorem laysC : Lays2.n20 Tryz.prog renC where
 mixed := mixed
 f20 := by kernel_rfl
 t0 := by kernel_rfl
 a0 := fun w => by rfl
 z0 := fun w => by rfl
 v0 := fun w => by rfl
 t3 := by kernel_rfl
 a3 := fun w => by rfl
 z3 := fun w => by rfl
 v3 := fun w => by rfl
 t4 := by kernel_rfl
 a4 := fun w => by rfl
 z4 := fun w => by rfl
 v4 := fun w => by rfl
 t22 := by kernel_rfl
 a22 := fun w => by rfl
 z22 := fun w => by rfl
 v22 := fun w => by rfl
 i3 := by kernel_rfl
theorem gen_compactC {nx : Nat} {m : Mem} {k ver : Nat} {zs : List Int} (hm : m k = .arr ver 1 (zs.map intRow)) (hk : nx <= k) (hl : zs.length <= maxLen) :
  GenStp Tryz.prog nx m 258 [.at (.ow k ver 1 zs.length)] (upd m k (.arr (ver + 1) 1 ((Lib.compact zs).map intRow))) (.at (.ow k (ver + 1) 1 (Lib.compact zs).length)) := gen_compact laysC hm hk hl
def tries (x : DLand) (n : Int) : List Int := [n - x.w, n - 1, n + 1, n + x.w]
noncomputable def tryTo (x : DLand) (n : Int) (i : Nat) : List Int := ((tries x n).take i).filter fun m => decide (x.Next n m)
theorem try_yes {x : DLand} {n m : Int} {i : Nat} (h : (tries x n)[i]? = some m) (hm : x.Next n m) : tryTo x n (i + 1) = tryTo x n i ++ [m] := by
 simp only [tryTo, List.take_add_one, h, Option.toList_some, List.filter_append, List.filter_cons, hm, decide_true, if_true, List.filter_nil]
theorem try_no {x : DLand} {n m : Int} {i : Nat} (h : (tries x n)[i]? = some m) (hm : ¬ x.Next n m) : tryTo x n (i + 1) = tryTo x n i := by
 simp only [tryTo, List.take_add_one, h, Option.toList_some, List.filter_append, List.filter_cons, hm, decide_false, List.filter_nil, List.append_nil, Bool.false_eq_true, if_false]
theorem try_len {x : DLand} {n : Int} {i : Nat} : (tryTo x n i).length <= 4 := by
 have := List.length_filter_le (fun m => decide (x.Next n m)) ((tries x n).take i)
 have h2 : (tries x n).length = 4 := rfl
 simp only [List.length_take, h2] at this
 unfold tryTo; omega
theorem try_all {x : DLand} {n : Int} (hn : x.Cell n) : Lib.compact (tryTo x n 4) = x.near n := by
 rw [<- DLand.near_compact hn]
 simp only [tryTo, tries, List.take_succ_cons, List.take_zero, List.filter_cons, List.filter_nil, opt, decide_eq_true_eq]
 congr 1
 split <;> split <;> split <;> split <;> rfl
theorem roomN {n : Nat} (h : n <= 1048576) : Room n 8 := by unfold Room; omega
theorem opt_len {p : Prop} [Decidable p] {v : Int} : (opt p v).length <= 1 := by unfold opt; split <;> simp
theorem DLand.left_in {x : DLand} {n : Int} (hn : x.Cell n) (h : 0 < n % x.w) : 1 <= n := by
 obtain ⟨q, r, hq, h1, h2, h3, h4, e1, e2⟩ := DLand.pos hn
 have : 0 <= q * x.w := Int.mul_nonneg h3 (by omega)
 omega
theorem DLand.right_in {x : DLand} {n : Int} (hn : x.Cell n) (h : n % x.w < x.w - 1) : n + 1 < x.cells.length := by
 obtain ⟨q, r, hq, h1, h2, h3, h4, e1, e2⟩ := DLand.pos hn
 have h5 := hn.1.2.2.1
 have : (q + 1) * x.w <= x.h * x.w := Int.mul_le_mul_of_nonneg_right (by omega) (by omega)
 rw [Int.add_mul, Int.mul_comm x.h] at this
 omega
noncomputable def nearA (x : DLand) (n : Int) : List Int := opt (0 <= n - x.w /\ x.at (n - x.w) ≠ 2) (n - x.w)
noncomputable def nearB (x : DLand) (n : Int) : List Int := opt (0 < n % x.w /\ x.at (n - 1) ≠ 2) (n - 1)
noncomputable def nearC (x : DLand) (n : Int) : List Int := opt (n % x.w < x.w - 1 /\ x.at (n + 1) ≠ 2) (n + 1)
noncomputable def nearD (x : DLand) (n : Int) : List Int := opt (n + x.w < x.cells.length /\ x.at (n + x.w) ≠ 2) (n + x.w)
theorem nearL (x : DLand) (n : Int) : x.near n = nearA x n ++ nearB x n ++ nearC x n ++ nearD x n := rfl
theorem impl_Near (x : DLand) (n : Int) (hc : x.Cell n) (hl : x.cells.length <= 1048576) : SC Tryz.prog 175 [.ag x.ats, .at (.v (.int .i64 n))] [] (.at (.fr 1 ((x.near n).map intRow))) [] := by
 refine SC.of_W mixed Tryz.func175 (by kernel_rfl) rfl Tryz.results175 _ Tryz.ntmps175 (by simp) ?_
 simp -implicitDefEqProofs only [go_sem]
 refine callX [] (impl_IsCell x n hl) (by simp -implicitDefEqProofs only [go_sem]) ?_
 simp -implicitDefEqProofs only [go_sem]
 refine ⟨fun h => absurd hc h, fun _ => ?_⟩
 have hb := hc.1.len
 have h1 := hc.2
 obtain ⟨⟨w1, w2⟩, _⟩ := hc.1
 rw [wrap64 (x := n - x.w) (by omega) (by omega), wrap64 (x := n - 1) (by omega) (by omega), wrap64 (x := n + 1) (by omega) (by omega), wrap64 (x := n + x.w) (by omega) (by omega)]
 refine T.loopW mixed [1, 2, 5, 25, 26, 27] (fun mm vs es => ∃ (i : Nat), vs = [.at (.v (.int .i64 n)), .at (.bx 100 0 0), .at (.ow 101 0 1 ((tryTo x n i).length)), .at (.ow 102 0 1 4), .at (.v (.int .i64 4)), .at (.v (.int .i64 i))] /\ es = [.box 0 x.ats, .arr 0 1 ((tryTo x n i).map intRow), .arr 0 1 ((tries x n).map intRow)] /\ mm + i = 4) 4 ?_ ?_
 ·simp -implicitDefEqProofs only [go_sem]; exact ⟨0, ⟨rfl, rfl, rfl⟩, ⟨rfl, rfl⟩, by omega⟩
 rintro q _ _ ⟨i, rfl, rfl, hq⟩
 simp -implicitDefEqProofs only [go_sem]
 have ht : (tries x n).length = 4 := rfl
 refine ⟨fun h => ⟨by omega, by omega, fun m hm => ?_⟩, fun h => ?_⟩
 ·have hl4 := try_len (x := x) (n := n) (i := i)
  refine callX [] (impl_IsOpen x m hl) (by simp -implicitDefEqProofs only [go_sem]) ?_
  simp -implicitDefEqProofs only [go_sem]
  have yes : x.Next n m -> ∃ n', n' < q /\ ∃ i', ((tryTo x n i).length + 1 = (tryTo x n i').length /\ IntKind.i64.wrap (i + 1) = i') /\ (tryTo x n i).map intRow ++ [[.int .i64 m]] = (tryTo x n i').map intRow /\ n' + i' = 4 := fun hk =>
   ⟨q - 1, by omega, i + 1, ⟨by rw [try_yes hm hk]; simp, by rw [wrap64 (by omega) (by omega)]; rfl⟩, by rw [try_yes hm hk]; simp [intRow], by omega⟩
  have no : ¬ x.Next n m -> ∃ n', n' < q /\ ∃ i', ((tryTo x n i).length = (tryTo x n i').length /\ IntKind.i64.wrap (i + 1) = i') /\ (tryTo x n i).map intRow = (tryTo x n i').map intRow /\ n' + i' = 4 := fun hk =>
   ⟨q - 1, by omega, i + 1, ⟨by rw [try_no hm hk], by rw [wrap64 (by omega) (by omega)]; rfl⟩, by rw [try_no hm hk], by omega⟩
  refine ⟨fun k1 => ?_, fun k1 => no fun hk => k1 hk.1⟩
  refine callX [] (impl_Apart x n m hl) (by simp -implicitDefEqProofs only [go_sem]) ?_
  simp -implicitDefEqProofs only [go_sem]
  exact ⟨fun k2 => ⟨roomN (by omega), yes ⟨k1, k2⟩⟩, fun k2 => no fun hk => k2 hk.2⟩
 ·have : i = 4 := by omega
  subst this
  refine .inr ⟨_, _, gen_compactC (k := 101) (ver := 0) (zs := tryTo x n 4) rfl (by omega) (Nat.le_trans try_len (by decide)), ?_⟩
  simp -implicitDefEqProofs only [go_sem]
  rw [try_all hc]
  exact ⟨rfl, rfl⟩
theorem spec_l4Near (x : DLand) (n : Int) (hc : x.Cell n) (hl : x.cells.length <= 1048576) : SC Tryz.prog 234 [.ag x.ats, .at (.v (.int .i64 n))] [] (.at (.fr 1 ((x.near n).map intRow))) [] := by
 refine SC.of_WJ mixed Tryz.func234 (by kernel_rfl) rfl Tryz.results234 _ Tryz.ntmps234 (by simp) ?_
 simp -implicitDefEqProofs only [go_sem]
 have hb := hc.1.len
 have h1 := hc.2
 obtain ⟨⟨w1, w2⟩, _⟩ := hc.1
 have ed : n.tmod x.w = n % x.w := Int.tmod_eq_emod_of_nonneg h1.1
 have la : (nearA x n).length <= 1 := opt_len
 have lb : (nearB x n).length <= 1 := opt_len
 have lc : (nearC x n).length <= 1 := opt_len
 refine T.joinJ mixed [1, 2, 5] (fun vs es => ∃ (_ : Unit), vs = [.at (.v (.int .i64 n)), .at (.bx 100 0 0), .at (.ow 101 0 1 ((nearA x n).length))] /\ es = [.box 0 x.ats, .arr 0 1 ((nearA x n).map intRow)] /\ True) ?_ ?_
 ·simp -implicitDefEqProofs only [go_sem]
  rw [wrap64 (by omega) (by omega)]
  refine ⟨fun h => ⟨by omega, fun c hg => ⟨fun k => ⟨roomN (by omega), (), ?_⟩, fun k => ⟨(), ?_⟩⟩⟩, fun h => ⟨(), ?_⟩⟩
  ·rw [nearA, opt_t ⟨by omega, by rw [at_get hg]; exact k⟩]; simp [intRow]
  ·rw [nearA, opt_f (fun h => h.2 (by rw [at_get hg]; exact k))]; simp
  ·rw [nearA, opt_f (fun k => by have := k.1; omega)]; simp
 rintro _ _ ⟨_, rfl, rfl, _⟩
 simp -implicitDefEqProofs only [go_sem]
 refine T.joinJ mixed [1, 2, 5] (fun vs es => ∃ (_ : Unit), vs = [.at (.v (.int .i64 n)), .at (.bx 100 0 0), .at (.ow 101 0 1 ((nearA x n ++ nearB x n).length))] /\ es = [.box 0 x.ats, .arr 0 1 ((nearA x n ++ nearB x n).map intRow)] /\ True) ?_ ?_
 ·simp -implicitDefEqProofs only [go_sem]
  rw [wrap64 (by omega) (by omega), ed]
  refine ⟨by omega, fun h => ⟨⟨by have := DLand.left_in hc h; omega, by omega⟩, fun c hg => ⟨fun k => ⟨roomN (by omega), (), ?_⟩, fun k => ⟨(), ?_⟩⟩⟩, fun h => ⟨(), ?_⟩⟩
  ·rw [nearB, opt_t ⟨h, by rw [at_get hg]; exact k⟩]; simp [intRow]
  ·rw [nearB, opt_f (fun h => h.2 (by rw [at_get hg]; exact k))]; simp
  ·rw [nearB, opt_f (fun k => h k.1)]; simp
 rintro _ _ ⟨_, rfl, rfl, _⟩
 simp -implicitDefEqProofs only [go_sem]
 refine T.joinJ mixed [1, 2, 5] (fun vs es => ∃ (_ : Unit), vs = [.at (.v (.int .i64 n)), .at (.bx 100 0 0), .at (.ow 101 0 1 ((nearA x n ++ nearB x n ++ nearC x n).length))] /\ es = [.box 0 x.ats, .arr 0 1 ((nearA x n ++ nearB x n ++ nearC x n).map intRow)] /\ True) ?_ ?_
 ·simp -implicitDefEqProofs only [go_sem]
  refine ⟨some [], by decide +kernel, ?_⟩
  simp -implicitDefEqProofs only [go_sem]
  rw [wrap64 (x := n + 1) (by omega) (by omega), wrap64 (x := x.w - 1) (by omega) (by omega), ed]
  refine ⟨by omega, fun h => ⟨⟨by omega, DLand.right_in hc h⟩, fun c hg => ⟨fun k => ⟨roomN (by omega), (), ?_⟩, fun k => ⟨(), ?_⟩⟩⟩, fun h => ⟨(), ?_⟩⟩
  ·rw [nearC, opt_t ⟨h, by rw [at_get hg]; exact k⟩]; simp [intRow]
  ·rw [nearC, opt_f (fun h => h.2 (by rw [at_get hg]; exact k))]; simp
  ·rw [nearC, opt_f (fun k => h k.1)]; simp
 rintro _ _ ⟨_, rfl, rfl, _⟩
 simp -implicitDefEqProofs only [go_sem]
 refine T.joinJ mixed [1, 2, 5] (fun vs es => ∃ (_ : Unit), vs = [.at (.v (.int .i64 n)), .at (.bx 100 0 0), .at (.ow 101 0 1 ((x.near n).length))] /\ es = [.box 0 x.ats, .arr 0 1 ((x.near n).map intRow)] /\ True) ?_ ?_
 ·simp -implicitDefEqProofs only [go_sem]
  rw [wrap64 (by omega) (by omega), nearL]
  refine ⟨fun h => ⟨by omega, fun c hg => ⟨fun k => ⟨roomN (by omega), (), ?_⟩, fun k => ⟨(), ?_⟩⟩⟩, fun h => ⟨(), ?_⟩⟩
  ·rw [nearD, opt_t ⟨h, by rw [at_get hg]; exact k⟩]; simp [intRow]; omega
  ·rw [nearD, opt_f (fun h => h.2 (by rw [at_get hg]; exact k))]; simp; omega
  ·rw [nearD, opt_f (fun k => h k.1)]; simp; omega
 rintro _ _ ⟨_, rfl, rfl, _⟩
 simp -implicitDefEqProofs only [go_sem]
end Go.Abs
