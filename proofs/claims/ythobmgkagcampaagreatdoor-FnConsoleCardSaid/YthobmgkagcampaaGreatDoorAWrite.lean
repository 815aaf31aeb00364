/- A page of the journal is written. -/
import Derived.Test.YthobmgkagcampaaGreatDoorASafe
namespace Go.Abs
open Go.RowKit Go.Proofs
set_option linter.all false
set_option maxRecDepth 100000
set_option maxHeartbeats 4000000
theorem ownCell_ow {a j k v s n : Nat} {cs : List A} {K2 : St -> Prop} {σ : St} : ownCell a j (.ow k v s n :: cs) K2 σ = ownCell a (j + 1) cs K2 σ := rfl
theorem ownNil_ow {t k v s n : Nat} {rs : List ResultVar} {ws : List AV} {K1 : St -> Prop} {σ : St} : ownNil (.tmp t :: rs) (.at (.ow k v s n) :: ws) K1 σ = ownNil rs ws K1 σ := rfl
theorem instA_ow {m k v s n : Nat} : instA m (.ow k v s n) = (.ow k v s n, m) := rfl
theorem freshA_ow {k v s n : Nat} : freshA (.ow k v s n) = [] := rfl
theorem noIm_ow {k v s n : Nat} : A.noIm (.ow k v s n) = true := rfl
attribute [go_sem] ownCell_ow ownNil_ow instA_ow freshA_ow noIm_ow
def finH (P : Program) (nx : Nat) (rs : List ResultVar) (res : AV) (ext' : List Ent) : Post
 | .ret, σ => nx <= 1000 /\ ownNil rs (partsOf res) (fun σ => resC P σ rs fun xs => finX nx σ.m xs res ext' ((keysT σ.m xs).filter fun k => decide (nx <= k))) σ
 | _, _ => False
theorem finH_S {P : Program} {nx : Nat} {fn : Func} {rs : List ResultVar} {res : AV} {ext' : List Ent} (hr : fn.results.toList = rs) : ∀ e σ, finH P nx rs res ext' e σ -> finS P nx fn res ext' e σ := by
 intro e σ h
 cases e with
 | ret =>
  obtain ⟨hnx, h⟩ := h
  obtain ⟨σ1, hw, h⟩ := ownNil_weak (nx := nx) (hx := by omega) h
  obtain ⟨xs, h1, h2, h3, h4, h5, h6⟩ := resC_at h
  exact ⟨σ1, xs, _, hw, by rw [hr]; exact h1, hnx, h2, h3, h4, h5, h6⟩
 | _ => exact h.elim
theorem SC.of_H {P : Program} {f : FuncId} {fn : Func} {c : Code} {args : List AV} {ext : List Ent} {res : AV} {ext' : List Ent} {rs : List ResultVar} (hm : P.follows .mixedOrders = true) (hf : P.funcs[f]? = some fn) (hn : (fn.name == "runtime.NumGoroutine") = false) (hb : fn.body = some c)
  (hr : fn.results = rs.toArray) (n : Nat) (hnt : fn.ntmps = n) (hsz : args.length <= n) (hx : ext.length <= 1000) (h : W P ext.length n c (finH P ext.length rs res ext') ⟨ofT (slotsOf 0 args), updL M0 0 ext⟩) : SC P f args ext res ext' := by
 subst hnt
 rw [<- ofM_own rfl hx] at h
 exact SC.of_T hf hn hb hsz (T.mono (W.T hm h) (finH_S (by rw [hr])))
theorem finH_ret {P : Program} {nx : Nat} {rs : List ResultVar} {res : AV} {ext : List Ent} {t : Nat -> AV} {m : Mem} : finH P nx rs res ext .ret ⟨t, m⟩ = (nx <= 1000 /\ ownNil rs (partsOf res) (fun σ => resC P σ rs fun xs => finX nx σ.m xs res ext ((keysT σ.m xs).filter fun k => decide (nx <= k))) ⟨t, m⟩) := rfl
attribute [go_sem ↓] finH_ret
def mkPage (l : List DPage) (day cell food : Int) : DPage := ⟨day, cell, food, sealZ (prevP l l.length).mark ⟨day, cell, food, 0⟩⟩
def writeP (l : List DPage) (day cell food : Int) : Prop := Journal (l ++ [mkPage l day cell food])
noncomputable instance (l : List DPage) (day cell food : Int) : Decidable (writeP l day cell food) := Classical.propDecidable _
noncomputable def writeL (l : List DPage) (day cell food : Int) : List DPage := if writeP l day cell food then l ++ [mkPage l day cell food] else l
theorem mkPage_wf {l : List DPage} {day cell food : Int} (h1 : I64 day) (h2 : I64 cell) (h3 : I64 food) : (mkPage l day cell food).wf := by
 have := sealZ_bound (prevP l l.length).mark ⟨day, cell, food, 0⟩
 exact ⟨h1, h2, h3, by unfold I64; simp only [mkPage]; omega⟩
theorem write_wf {l : List DPage} {day cell food : Int} (hw : ∀ p ∈ l, p.wf) (h1 : I64 day) (h2 : I64 cell) (h3 : I64 food) : ∀ p ∈ l ++ [mkPage l day cell food], p.wf := by
 intro p hp
 rcases List.mem_append.1 hp with h | h
 ·exact hw p h
 ·rw [List.mem_singleton] at h; subst h; exact mkPage_wf h1 h2 h3
theorem writeL_wf {l : List DPage} {day cell food : Int} (hw : ∀ p ∈ l, p.wf) (h1 : I64 day) (h2 : I64 cell) (h3 : I64 food) : ∀ p ∈ writeL l day cell food, p.wf := by
 unfold writeL; split
 ·exact write_wf hw h1 h2 h3
 ·exact hw
theorem writeL_len {l : List DPage} {day cell food : Int} : (writeL l day cell food).length <= l.length + 1 := by
 unfold writeL; split <;> simp
theorem impl_WritePage (l : List DPage) (day cell food : Int) (hl : l.length <= 1048575) (hw : ∀ p ∈ l, p.wf) (h1 : I64 day) (h2 : I64 cell) (h3 : I64 food) :
  SC Tryz.prog 282 [.at (.im 4 (l.map DPage.row)), .at (.v (.int .i64 day)), .at (.v (.int .i64 cell)), .at (.v (.int .i64 food))] [] (.tp [.at (.fr 4 ((writeL l day cell food).map DPage.row)), .at (.v (.bool (decide (writeP l day cell food))))]) [] := by
 have hw2 := write_wf hw h1 h2 h3
 have hl2 : (l ++ [mkPage l day cell food]).length <= 1048576 := by simp; omega
 refine SC.of_W mixed Tryz.func282 (by kernel_rfl) rfl Tryz.results282 _ Tryz.ntmps282 (by simp) ?_
 simp -implicitDefEqProofs only [go_sem]
 have key : ∀ b : Int, b = (prevP l l.length).mark -> sealZ b ⟨day, cell, food, 0⟩ = (mkPage l day cell food).mark := fun b e => by subst e; rfl
 have row : (l ++ [mkPage l day cell food]).map DPage.row = l.map DPage.row ++ [[.int .i64 day, .int .i64 cell, .int .i64 food, .int .i64 (mkPage l day cell food).mark]] := by rw [List.map_append]; rfl
 have hwp : (⟨day, cell, food, 0⟩ : DPage).wf := ⟨h1, h2, h3, by unfold I64; simp⟩
 have hb := prevP_64 hw l.length
 refine ⟨fun h0 => ?_, fun h0 => ?_⟩
 ·rw [wrap64 (x := (l.length : Int) - 1) (by omega) (by omega), show ((l.length : Int) - 1).toNat = l.length - 1 by omega]
  refine ⟨by omega, fun q hq => ?_⟩
  have eq : q.mark = (prevP l l.length).mark := by rw [prevP_get hq (by omega)]
  refine callX [] (impl_sealOf q.mark ⟨day, cell, food, 0⟩ (eq ▸ hb) hwp) (by simp -implicitDefEqProofs only [go_sem]) ?_
  simp -implicitDefEqProofs only [go_sem]
  rw [key _ eq]
  refine ⟨some [1496], by decide +kernel, ?_⟩
  simp -implicitDefEqProofs only [go_sem]
  refine ⟨room_s (by omega) (by decide), room_s (by omega) (by decide), ?_⟩
  rw [<- row, show l.length + 1 = (l ++ [mkPage l day cell food]).length by simp]
  refine callX [1496] (impl_IsJournal (l ++ [mkPage l day cell food]) hl2 hw2) (by simp -implicitDefEqProofs only [go_sem]) ?_
  simp -implicitDefEqProofs only [go_sem]
  refine ⟨fun hj => ?_, fun hj => ?_⟩
  ·have hn : ¬ writeP l day cell food := hj
   rw [writeL, if_neg hn]; exact ⟨room_s (by omega) (by decide), ⟨rfl, dec_f hn⟩, rfl⟩
  ·have hy : writeP l day cell food := hj
   rw [writeL, if_pos hy]; exact ⟨⟨by simp, dec_t hy⟩, rfl⟩
 ·have eq : 0 = (prevP l l.length).mark := by rw [show l.length = 0 by omega]; rfl
  refine callX [] (impl_sealOf 0 ⟨day, cell, food, 0⟩ (eq ▸ hb) hwp) (by simp -implicitDefEqProofs only [go_sem]) ?_
  simp -implicitDefEqProofs only [go_sem]
  rw [key _ eq]
  refine ⟨some [1496], by decide +kernel, ?_⟩
  simp -implicitDefEqProofs only [go_sem]
  refine ⟨room_s (by omega) (by decide), room_s (by omega) (by decide), ?_⟩
  rw [<- row, show l.length + 1 = (l ++ [mkPage l day cell food]).length by simp]
  refine callX [1496] (impl_IsJournal (l ++ [mkPage l day cell food]) hl2 hw2) (by simp -implicitDefEqProofs only [go_sem]) ?_
  simp -implicitDefEqProofs only [go_sem]
  refine ⟨fun hj => ?_, fun hj => ?_⟩
  ·have hn : ¬ writeP l day cell food := hj
   rw [writeL, if_neg hn]; exact ⟨room_s (by omega) (by decide), ⟨rfl, dec_f hn⟩, rfl⟩
  ·have hy : writeP l day cell food := hj
   rw [writeL, if_pos hy]; exact ⟨⟨by simp, dec_t hy⟩, rfl⟩
theorem spec_WritePage (l : List DPage) (day cell food : Int) (hl : l.length <= 1048575) (hw : ∀ p ∈ l, p.wf) (h1 : I64 day) (h2 : I64 cell) (h3 : I64 food) :
  SC Tryz.prog 253 [.at (.im 4 (l.map DPage.row)), .at (.v (.int .i64 day)), .at (.v (.int .i64 cell)), .at (.v (.int .i64 food))] [] (.tp [.at (.fr 4 ((writeL l day cell food).map DPage.row)), .at (.v (.bool (decide (writeP l day cell food))))]) [] := by
 have hw2 := write_wf hw h1 h2 h3
 have hl2 : (l ++ [mkPage l day cell food]).length <= 1048576 := by simp; omega
 refine SC.of_W mixed Tryz.func253 (by kernel_rfl) rfl Tryz.results253 _ Tryz.ntmps253 (by simp) ?_
 simp -implicitDefEqProofs only [go_sem]
 have key : ∀ b : Int, b = (prevP l l.length).mark -> sealZ b ⟨day, cell, food, 0⟩ = (mkPage l day cell food).mark := fun b e => by subst e; rfl
 have row : (l ++ [mkPage l day cell food]).map DPage.row = l.map DPage.row ++ [[.int .i64 day, .int .i64 cell, .int .i64 food, .int .i64 (mkPage l day cell food).mark]] := by rw [List.map_append]; rfl
 have hwp : (⟨day, cell, food, 0⟩ : DPage).wf := ⟨h1, h2, h3, by unfold I64; simp⟩
 have hb := prevP_64 hw l.length
 refine ⟨fun h0 => ?_, fun h0 => ?_⟩
 ·rw [wrap64 (x := (l.length : Int) - 1) (by omega) (by omega), show ((l.length : Int) - 1).toNat = l.length - 1 by omega]
  refine ⟨by omega, fun q hq => ?_⟩
  have eq : q.mark = (prevP l l.length).mark := by rw [prevP_get hq (by omega)]
  refine callX [] (spec_l21Seal q.mark ⟨day, cell, food, 0⟩ (eq ▸ hb) hwp) (by simp -implicitDefEqProofs only [go_sem]) ?_
  simp -implicitDefEqProofs only [go_sem]
  rw [key _ eq]
  refine ⟨some [1496], by decide +kernel, ?_⟩
  simp -implicitDefEqProofs only [go_sem]
  refine ⟨room_s (by omega) (by decide), room_s (by omega) (by decide), ?_⟩
  rw [<- row, show l.length + 1 = (l ++ [mkPage l day cell food]).length by simp]
  refine callX [1496] (spec_IsJournal (l ++ [mkPage l day cell food]) hl2 hw2) (by simp -implicitDefEqProofs only [go_sem]) ?_
  simp -implicitDefEqProofs only [go_sem]
  refine ⟨fun hj => ?_, fun hj => ?_⟩
  ·have hn : ¬ writeP l day cell food := hj
   rw [writeL, if_neg hn]; exact ⟨room_s (by omega) (by decide), ⟨rfl, dec_f hn⟩, rfl⟩
  ·have hy : writeP l day cell food := hj
   rw [writeL, if_pos hy]; exact ⟨⟨by simp, dec_t hy⟩, rfl⟩
 ·have eq : 0 = (prevP l l.length).mark := by rw [show l.length = 0 by omega]; rfl
  refine callX [] (spec_l21Seal 0 ⟨day, cell, food, 0⟩ (eq ▸ hb) hwp) (by simp -implicitDefEqProofs only [go_sem]) ?_
  simp -implicitDefEqProofs only [go_sem]
  rw [key _ eq]
  refine ⟨some [1496], by decide +kernel, ?_⟩
  simp -implicitDefEqProofs only [go_sem]
  refine ⟨room_s (by omega) (by decide), room_s (by omega) (by decide), ?_⟩
  rw [<- row, show l.length + 1 = (l ++ [mkPage l day cell food]).length by simp]
  refine callX [1496] (spec_IsJournal (l ++ [mkPage l day cell food]) hl2 hw2) (by simp -implicitDefEqProofs only [go_sem]) ?_
  simp -implicitDefEqProofs only [go_sem]
  refine ⟨fun hj => ?_, fun hj => ?_⟩
  ·have hn : ¬ writeP l day cell food := hj
   rw [writeL, if_neg hn]; exact ⟨room_s (by omega) (by decide), ⟨rfl, dec_f hn⟩, rfl⟩
  ·have hy : writeP l day cell food := hj
   rw [writeL, if_pos hy]; exact ⟨⟨by simp, dec_t hy⟩, rfl⟩
end Go.Abs
