/- Lists as text. -/
import Derived.Test.YthobmgkagcampaaGreatDoorAText
namespace Go.Abs
open Go.RowKit Go.Proofs
set_option linter.all false
set_option maxRecDepth 100000
set_option maxHeartbeats 4000000
def strs {β : Type} (g : β -> ByteArray) (l : List β) (i : Nat) : List (List Value) := ((l.take i).map g).map strRow
theorem strs_S {β : Type} {g : β -> ByteArray} {l : List β} {i : Nat} {x : β} (h : l[i]? = some x) : strs g l (i + 1) = strs g l i ++ [[.string (g x)]] := by
 simp [strs, List.take_add_one, h, strRow]
theorem strs_len {β : Type} {g : β -> ByteArray} {l : List β} {i : Nat} (h : i <= l.length) : (strs g l i).length = i := by
 simp [strs]; omega
theorem strs_end {β : Type} {g : β -> ByteArray} {l : List β} {i : Nat} (h : ¬ (i : Int) < l.length) : strs g l i = (l.map g).map strRow := by
 rw [strs, List.take_of_length_le (by omega)]
theorem strs_step {β : Type} {g : β -> ByteArray} {l : List β} {i q : Nat} {x : β} (hl : l.length <= 1048576) (hq : q + i = l.length) (h : l[i]? = some x) :
  Room ((strs g l i).length + 1) 16 /\ ∃ n', n' < q /\ ∃ i_1 : Nat, ((strs g l i).length + 1 = i_1 /\ IntKind.i64.wrap ((i : Int) + 1) = (i_1 : Int)) /\ strs g l i ++ [[Value.string (g x)]] = strs g l i_1 /\ n' + i_1 = l.length := by
 have hi := (List.getElem?_eq_some_iff.1 h).1
 rw [strs_len (by omega)]
 exact ⟨by unfold Room; omega, q - 1, by omega, i + 1, ⟨rfl, wrap64 (by omega) (by omega)⟩, (strs_S h).symm, by omega⟩
theorem map_le {β : Type} {g : β -> ByteArray} {l : List β} (h : ∀ x ∈ l, (g x).size <= 100) : ∀ s ∈ l.map g, s.size <= 100 := by
 intro s hs
 obtain ⟨x, hx, rfl⟩ := List.mem_map.1 hs
 exact h x hx
noncomputable def numsV (l : List Int) : ByteArray := joinV (l.map fmtV)
theorem impl_FormatNumbers (l : List Int) (hl : l.length <= 1048576) (hw : ∀ n ∈ l, I64 n) : SC Tryz.prog 195 [.at (.im 1 (l.map intRow))] [] (.at (.v (.string (numsV l)))) [] := by
 refine SC.of_V mixed Tryz.func195 (by kernel_rfl) rfl Tryz.results195 _ Tryz.ntmps195 (by simp) ?_
 simp -implicitDefEqProofs only [go_sem]
 refine T.loopW mixed [3, 7, 8, 9] (fun mm vs es => ∃ (i : Nat), vs = [.at (.ow 100 0 1 i), .at (.im 1 (l.map intRow)), .at (.v (.int .i64 l.length)), .at (.v (.int .i64 i))] /\ es = [.arr 0 1 (strs fmtV l i)] /\ mm + i = l.length) l.length ?_ ?_
 ·simp -implicitDefEqProofs only [go_sem]; exact ⟨0, ⟨rfl, rfl⟩, rfl, by omega⟩
 rintro q _ _ ⟨i, rfl, rfl, hq⟩
 simp -implicitDefEqProofs only [go_sem]
 refine ⟨fun h => ⟨by omega, fun n hn => ?_⟩, fun h => ?_⟩
 ·refine callX [] (impl_FormatInt n (hw n (List.mem_of_getElem? hn))) (by simp -implicitDefEqProofs only [go_sem]) ?_
  simp -implicitDefEqProofs only [go_sem]
  exact strs_step (g := fmtV) hl hq hn
 ·rw [strs_end h]
  refine callXF [100] (impl_orDash (l.map (fmtV)) (by simp; omega) (map_le (fun n hn => Nat.le_trans (fmt_len (hw n hn)) (by decide)))) (by simp -implicitDefEqProofs only [go_sem]) ?_
  simp -implicitDefEqProofs only [go_sem]
  rfl
noncomputable def cellsV (x : DLand) (l : List Int) : ByteArray := joinV (l.map (nameV x))
theorem impl_FormatCells (x : DLand) (l : List Int) (hx : x.cells.length <= 1048576) (hl : l.length <= 1048576) : SC Tryz.prog 84 [.ag x.ats, .at (.im 1 (l.map intRow))] [] (.at (.v (.string (cellsV x l)))) [] := by
 refine SC.of_V mixed Tryz.func84 (by kernel_rfl) rfl Tryz.results84 _ Tryz.ntmps84 (by simp) ?_
 simp -implicitDefEqProofs only [go_sem]
 refine T.loopW mixed [2, 5, 9, 10, 11] (fun mm vs es => ∃ (i : Nat), vs = [.at (.bx 100 0 0), .at (.ow 101 0 1 i), .at (.im 1 (l.map intRow)), .at (.v (.int .i64 l.length)), .at (.v (.int .i64 i))] /\ es = [.box 0 x.ats, .arr 0 1 (strs (nameV x) l i)] /\ mm + i = l.length) l.length ?_ ?_
 ·simp -implicitDefEqProofs only [go_sem]; exact ⟨0, ⟨rfl, rfl⟩, rfl, by omega⟩
 rintro q _ _ ⟨i, rfl, rfl, hq⟩
 simp -implicitDefEqProofs only [go_sem]
 refine ⟨fun h => ⟨by omega, fun n hn => ?_⟩, fun h => ?_⟩
 ·refine callX [] (impl_nameOf x n hx) (by simp -implicitDefEqProofs only [go_sem]) ?_
  simp -implicitDefEqProofs only [go_sem]
  exact strs_step (g := nameV x) hl hq hn
 ·rw [strs_end h]
  refine callXF [101] (impl_orDash (l.map (nameV x)) (by simp; omega) (map_le (fun n _ => Nat.le_trans (name_len x n) (by decide)))) (by simp -implicitDefEqProofs only [go_sem]) ?_
  simp -implicitDefEqProofs only [go_sem]
  rfl
noncomputable def depV (x : DLand) (d : DDepot) : ByteArray := nameV x d.cell ++ (⟨#[58]⟩ : ByteArray) ++ fmtV d.food
noncomputable def depsV (x : DLand) (l : List DDepot) : ByteArray := joinV (l.map (depV x))
theorem app_size (a b : ByteArray) : (a ++ b).size = a.size + b.size := ByteArray.size_append
theorem dep_len (x : DLand) {d : DDepot} (h : I64 d.food) : (depV x d).size <= 42 := by
 have := name_len x d.cell
 have := fmt_len h
 rw [depV, app_size, app_size, show (⟨#[58]⟩ : ByteArray).size = 1 from rfl]; omega
theorem impl_FormatDepots (x : DLand) (l : List DDepot) (hx : x.cells.length <= 1048576) (hl : l.length <= 1048576) (hw : ∀ d ∈ l, d.wf) : SC Tryz.prog 94 [.ag x.ats, .at (.im 2 (l.map DDepot.row))] [] (.at (.v (.string (depsV x l)))) [] := by
 refine SC.of_V mixed Tryz.func94 (by kernel_rfl) rfl Tryz.results94 _ Tryz.ntmps94 (by simp) ?_
 simp -implicitDefEqProofs only [go_sem]
 refine T.loopW mixed [2, 5, 9, 10, 11] (fun mm vs es => ∃ (i : Nat), vs = [.at (.bx 100 0 0), .at (.ow 101 0 1 i), .at (.im 2 (l.map DDepot.row)), .at (.v (.int .i64 l.length)), .at (.v (.int .i64 i))] /\ es = [.box 0 x.ats, .arr 0 1 (strs (depV x) l i)] /\ mm + i = l.length) l.length ?_ ?_
 ·simp -implicitDefEqProofs only [go_sem]; exact ⟨0, ⟨rfl, rfl⟩, rfl, by omega⟩
 rintro q _ _ ⟨i, rfl, rfl, hq⟩
 simp -implicitDefEqProofs only [go_sem]
 refine ⟨fun h => ⟨by omega, fun d hd => ?_⟩, fun h => ?_⟩
 ·refine ⟨some [101], by decide +kernel, ?_⟩
  simp -implicitDefEqProofs only [go_sem]
  refine callXQ [101] (impl_nameOf x d.cell hx) (by simp -implicitDefEqProofs only [go_sem]) ?_
  simp -implicitDefEqProofs only [go_sem]
  have hn := name_len x d.cell
  have hf := fmt_len (hw d (List.mem_of_getElem? hd)).2
  refine ⟨by show _ + 1 <= _; omega, ?_⟩
  refine callXQ [101] (impl_FormatInt d.food (hw d (List.mem_of_getElem? hd)).2) (by simp -implicitDefEqProofs only [go_sem]) ?_
  simp -implicitDefEqProofs only [go_sem]
  refine ⟨by show _ + 1 + _ <= _; omega, strs_step (g := depV x) hl hq hd⟩
 ·rw [strs_end h]
  refine callXF [101] (impl_orDash (l.map (depV x)) (by simp; omega) (map_le (fun d hd => Nat.le_trans (dep_len x (hw d hd).2) (by decide)))) (by simp -implicitDefEqProofs only [go_sem]) ?_
  simp -implicitDefEqProofs only [go_sem]
  rfl
noncomputable def pageV (x : DLand) (p : DPage) : ByteArray := fmtV p.day ++ (⟨#[64]⟩ : ByteArray) ++ nameV x p.cell ++ (⟨#[61]⟩ : ByteArray) ++ fmtV p.food
noncomputable def jourV (x : DLand) (l : List DPage) : ByteArray := joinV (l.map (pageV x))
theorem page_len (x : DLand) {p : DPage} (h : p.wf) : (pageV x p).size <= 63 := by
 have := name_len x p.cell
 have := fmt_len h.1
 have := fmt_len h.2.2.1
 rw [pageV, app_size, app_size, app_size, app_size, show (⟨#[64]⟩ : ByteArray).size = 1 from rfl, show (⟨#[61]⟩ : ByteArray).size = 1 from rfl]; omega
theorem impl_FormatJournal (x : DLand) (l : List DPage) (hx : x.cells.length <= 1048576) (hl : l.length <= 1048576) (hw : ∀ p ∈ l, p.wf) : SC Tryz.prog 95 [.ag x.ats, .at (.im 4 (l.map DPage.row))] [] (.at (.v (.string (jourV x l)))) [] := by
 refine SC.of_V mixed Tryz.func95 (by kernel_rfl) rfl Tryz.results95 _ Tryz.ntmps95 (by simp) ?_
 simp -implicitDefEqProofs only [go_sem]
 refine T.loopW mixed [2, 5, 9, 10, 11] (fun mm vs es => ∃ (i : Nat), vs = [.at (.bx 100 0 0), .at (.ow 101 0 1 i), .at (.im 4 (l.map DPage.row)), .at (.v (.int .i64 l.length)), .at (.v (.int .i64 i))] /\ es = [.box 0 x.ats, .arr 0 1 (strs (pageV x) l i)] /\ mm + i = l.length) l.length ?_ ?_
 ·simp -implicitDefEqProofs only [go_sem]; exact ⟨0, ⟨rfl, rfl⟩, rfl, by omega⟩
 rintro q _ _ ⟨i, rfl, rfl, hq⟩
 simp -implicitDefEqProofs only [go_sem]
 refine ⟨fun h => ⟨by omega, fun p hd => ?_⟩, fun h => ?_⟩
 ·refine ⟨some [101], by decide +kernel, ?_⟩
  simp -implicitDefEqProofs only [go_sem]
  have hp := hw p (List.mem_of_getElem? hd)
  have hn := name_len x p.cell
  have hf := fmt_len hp.2.2.1
  have hg := fmt_len hp.1
  refine callXQ [101] (impl_FormatInt p.day hp.1) (by simp -implicitDefEqProofs only [go_sem]) ?_
  simp -implicitDefEqProofs only [go_sem]
  refine ⟨by show _ + 1 <= _; omega, ?_⟩
  refine callXQ [101] (impl_nameOf x p.cell hx) (by simp -implicitDefEqProofs only [go_sem]) ?_
  simp -implicitDefEqProofs only [go_sem]
  refine ⟨by show _ + 1 + _ <= _; omega, by show _ + 1 + _ + 1 <= _; omega, ?_⟩
  refine callXQ [101] (impl_FormatInt p.food hp.2.2.1) (by simp -implicitDefEqProofs only [go_sem]) ?_
  simp -implicitDefEqProofs only [go_sem]
  refine ⟨by show _ + 1 + _ + 1 + _ <= _; omega, strs_step (g := pageV x) hl hq hd⟩
 ·rw [strs_end h]
  refine callXF [101] (impl_orDash (l.map (pageV x)) (by simp; omega) (map_le (fun p hp => Nat.le_trans (page_len x (hw p hp)) (by decide)))) (by simp -implicitDefEqProofs only [go_sem]) ?_
  simp -implicitDefEqProofs only [go_sem]
  rfl
noncomputable def trekV (t : DTrek) : ByteArray := numsV [t.day, t.given, t.eaten, t.party.food, foodZ t.depots, t.journal.length]
def DTrek.nums (t : DTrek) : Prop := I64 t.day /\ I64 t.given /\ I64 t.eaten /\ I64 t.party.food
theorem DTrek.wf.nums {t : DTrek} (hw : t.wf) : t.nums := by
 obtain ⟨_, _, _, _, _, h1, _, _, h2, h3, h4⟩ := hw
 exact ⟨h2, h3, h4, h1.2.1⟩
theorem trek_nums {t : DTrek} (hd : t.depots.length <= 1048576) (hj : t.journal.length <= 1048576) (hw : t.nums) : ∀ n ∈ [t.day, t.given, t.eaten, t.party.food, foodZ t.depots, (t.journal.length : Int)], I64 n := by
 obtain ⟨h2, h3, h4, h1⟩ := hw
 have hb := foodZ_bnd t.depots
 intro n hn
 simp only [List.mem_cons, List.not_mem_nil, or_false] at hn
 rcases hn with rfl | rfl | rfl | rfl | rfl | rfl
 ·exact h2
 ·exact h3
 ·exact h4
 ·exact h1
 ·unfold I64; omega
 ·unfold I64; omega
theorem impl_FormatTrek (t : DTrek) (hd : t.depots.length <= 1048576) (hj : t.journal.length <= 1048576) (hw : t.nums) : SC Tryz.prog 96 [.ag t.ats] [] (.at (.v (.string (trekV t)))) [] := by
 refine SC.of_V mixed Tryz.func96 (by kernel_rfl) rfl Tryz.results96 _ Tryz.ntmps96 (by simp) ?_
 simp -implicitDefEqProofs only [go_sem]
 refine ⟨some [], by decide +kernel, ?_⟩
 simp -implicitDefEqProofs only [go_sem]
 refine callXQ [] (impl_TotalFood t.depots hd) (by simp -implicitDefEqProofs only [go_sem]) ?_
 simp -implicitDefEqProofs only [go_sem]
 have hb := foodZ_bnd t.depots
 have hi := trek_nums hd hj hw
 refine callXQ [1288] (impl_FormatNumbers [t.day, t.given, t.eaten, t.party.food, foodZ t.depots, t.journal.length] (by simp) hi) (by simp -implicitDefEqProofs only [go_sem]) ?_
 simp -implicitDefEqProofs only [go_sem]
 rfl
end Go.Abs
