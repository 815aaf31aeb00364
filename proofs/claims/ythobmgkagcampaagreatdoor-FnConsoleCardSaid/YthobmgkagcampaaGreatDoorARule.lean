/- Food in the depots, the rule of storms, and what a trek's books say. -/
import Derived.Test.YthobmgkagcampaaGreatDoorACount
namespace Go.Abs
open Go.RowKit Go.Proofs
set_option linter.all false
set_option maxRecDepth 100000
def foodOf (d : DDepot) : Int := max 0 (min 10000 d.food)
def foodZ (l : List DDepot) : Int := sumL foodOf l
theorem foodOf_bnd (d : DDepot) : 0 <= foodOf d /\ foodOf d <= 10000 := by unfold foodOf; omega
theorem foodZ_bnd (l : List DDepot) : 0 <= foodZ l /\ foodZ l <= 10000 * l.length := by
 have := sum_all (f := foodOf) (l := l) (B := 10000) (fun c _ => foodOf_bnd c)
 unfold foodZ; omega
theorem impl_TotalFood (l : List DDepot) (hl : l.length <= 1048576) : SC Tryz.prog 196 [.at (.im 2 (l.map DDepot.row))] [] (.at (.v (.int .i64 (foodZ l)))) [] := by
 refine SC.of_V mixed Tryz.func196 (by kernel_rfl) rfl Tryz.results196 _ Tryz.ntmps196 (by simp) ?_
 simp -implicitDefEqProofs only [go_sem]
 refine T.loopW mixed [3, 6, 7, 8] (fun mm vs es => ∃ (i : Nat), vs = [.at (.v (.int .i64 (sumT foodOf l i))), .at (.im 2 (l.map DDepot.row)), .at (.v (.int .i64 l.length)), .at (.v (.int .i64 i))] /\ es = [] /\ mm + i = l.length) l.length ?_ ?_
 ·simp -implicitDefEqProofs only [go_sem]; exact ⟨0, ⟨sum0.symm, rfl⟩, by omega⟩
 rintro n _ _ ⟨i, rfl, rfl, hn⟩
 simp -implicitDefEqProofs only [go_sem]
 have hb := sum_bound (f := foodOf) (l := l) (B := 10000) (i := i) (fun c _ => foodOf_bnd c) (by omega)
 refine ⟨fun h => ⟨by omega, fun c hc => ?_⟩, fun h => sumEnd h⟩
 have hf := foodOf_bnd c
 have e : min (max c.food 0) 10000 = foodOf c := by unfold foodOf; omega
 rw [e, wrap64 (by omega) (by omega), wrap64 (by omega) (by omega)]
 exact ⟨n - 1, by omega, i + 1, ⟨by rw [sumS hc], rfl⟩, by omega⟩
theorem spec_TotalFood (l : List DDepot) (hl : l.length <= 1048576) : SC Tryz.prog 219 [.at (.im 2 (l.map DDepot.row))] [] (.at (.v (.int .i64 (foodZ l)))) [] := by
 refine SC.of_V mixed Tryz.func219 (by kernel_rfl) rfl Tryz.results219 _ Tryz.ntmps219 (by simp) ?_
 simp -implicitDefEqProofs only [go_sem]
 refine T.loopW mixed [0, 3, 4] (fun mm vs es => ∃ (i : Nat), vs = [.at (.im 2 (l.map DDepot.row)), .at (.v (.int .i64 (sumT foodOf l i))), .at (.v (.int .i64 i))] /\ es = [] /\ mm + i = l.length) l.length ?_ ?_
 ·simp -implicitDefEqProofs only [go_sem]; exact ⟨0, ⟨sum0.symm, rfl⟩, by omega⟩
 rintro n _ _ ⟨i, rfl, rfl, hn⟩
 simp -implicitDefEqProofs only [go_sem]
 have hb := sum_bound (f := foodOf) (l := l) (B := 10000) (i := i) (fun c _ => foodOf_bnd c) (by omega)
 refine ⟨fun h => ⟨by omega, fun c hc => ?_⟩, fun h => sumEnd h⟩
 refine callX [] (spec_Min 10000 c.food) (by simp -implicitDefEqProofs only [go_sem]) ?_
 simp -implicitDefEqProofs only [go_sem]
 refine callX [] (spec_Max 0 (min 10000 c.food)) (by simp -implicitDefEqProofs only [go_sem]) ?_
 simp -implicitDefEqProofs only [go_sem]
 have hf := foodOf_bnd c
 have e : max 0 (min 10000 c.food) = foodOf c := rfl
 rw [e, wrap64 (by omega) (by omega), wrap64 (by omega) (by omega)]
 exact ⟨n - 1, by omega, i + 1, ⟨by rw [sumS hc], rfl⟩, by omega⟩
def lostP (t : DTrek) : Prop := (0 <= t.given /\ t.given <= 1000000) /\ (0 <= t.eaten /\ t.eaten <= 1000000) /\ (0 <= t.party.food /\ t.party.food <= 10000) /\ t.given = t.eaten + t.party.food + foodZ t.depots
noncomputable instance (t : DTrek) : Decidable (lostP t) := Classical.propDecidable _
theorem impl_NothingLost (t : DTrek) (hl : t.depots.length <= 1048576) : SC Tryz.prog 197 [.ag t.ats] [] (.at (.v (.bool (decide (lostP t))))) [] := by
 refine SC.of_V mixed Tryz.func197 (by kernel_rfl) rfl Tryz.results197 _ Tryz.ntmps197 (by simp) ?_
 simp -implicitDefEqProofs only [go_sem]
 refine ⟨some [], by decide +kernel, ?_⟩
 simp -implicitDefEqProofs only [go_sem]
 refine callXQ [] (impl_InRange t.given 0 1000000) (by simp -implicitDefEqProofs only [go_sem]) ?_
 simp -implicitDefEqProofs only [go_sem]
 refine ⟨fun h1 => ?_, fun h1 => dec_f fun h => h1 h.1⟩
 refine callXQ [] (impl_InRange t.eaten 0 1000000) (by simp -implicitDefEqProofs only [go_sem]) ?_
 simp -implicitDefEqProofs only [go_sem]
 refine ⟨fun h2 => ?_, fun h2 => dec_f fun h => h2 h.2.1⟩
 refine callXQ [] (impl_InRange t.party.food 0 10000) (by simp -implicitDefEqProofs only [go_sem]) ?_
 simp -implicitDefEqProofs only [go_sem]
 refine ⟨fun h3 => ?_, fun h3 => dec_f fun h => h3 h.2.2.1⟩
 refine callXQ [] (impl_TotalFood t.depots hl) (by simp -implicitDefEqProofs only [go_sem]) ?_
 simp -implicitDefEqProofs only [go_sem]
 have hb := foodZ_bnd t.depots
 rw [wrap64 (x := t.eaten + t.party.food) (by omega) (by omega), wrap64 (by omega) (by omega)]
 exact decide_eq_decide.2 ⟨fun h => ⟨h1, h2, h3, h⟩, fun h => h.2.2.2⟩
def DRule.Ok (r : DRule) : Prop := (1 <= r.window /\ r.window <= 10) /\ 0 <= r.most /\ r.most <= r.window - 1
instance (r : DRule) : Decidable r.Ok := by unfold DRule.Ok; infer_instance
theorem impl_IsRule (r : DRule) : SC Tryz.prog 264 [.ag r.ats] [] (.at (.v (.bool (decide r.Ok)))) [] := by
 refine SC.of_V mixed Tryz.func264 (by kernel_rfl) rfl Tryz.results264 _ Tryz.ntmps264 (by simp) ?_
 simp -implicitDefEqProofs only [go_sem]
 refine callX [] (impl_InRange r.window 1 10) (by simp -implicitDefEqProofs only [go_sem]) ?_
 simp -implicitDefEqProofs only [go_sem]
 refine ⟨fun h1 => ?_, fun h1 => dec_f fun h => h1 h.1⟩
 rw [wrap64 (by omega) (by omega)]
 refine callX [] (impl_InRange r.most 0 (r.window - 1)) (by simp -implicitDefEqProofs only [go_sem]) ?_
 simp -implicitDefEqProofs only [go_sem]
 exact decide_eq_decide.2 ⟨fun h => ⟨h1, h⟩, fun h => h.2⟩
theorem spec_IsRule (r : DRule) : SC Tryz.prog 162 [.ag r.ats] [] (.at (.v (.bool (decide r.Ok)))) [] := by
 refine SC.of_V mixed Tryz.func162 (by kernel_rfl) rfl Tryz.results162 _ Tryz.ntmps162 (by simp) ?_
 simp -implicitDefEqProofs only [go_sem]
 refine callX [] (spec_l1In r.window 1 10) (by simp -implicitDefEqProofs only [go_sem]) ?_
 simp -implicitDefEqProofs only [go_sem]
 refine ⟨fun h1 => ?_, fun h1 => dec_f fun h => h1 h.1⟩
 rw [wrap64 (by omega) (by omega)]
 refine callX [] (spec_l1In r.most 0 (r.window - 1)) (by simp -implicitDefEqProofs only [go_sem]) ?_
 simp -implicitDefEqProofs only [go_sem]
 exact decide_eq_decide.2 ⟨fun h => ⟨h1, h⟩, fun h => h.2⟩
def win (l : List Bool) (w e : Nat) : List Bool := (l.drop (e - w)).take (e - (e - w))
theorem win_0 {l : List Bool} {w : Nat} : win l w 0 = [] := by simp [win]
theorem win_len {l : List Bool} {w e : Nat} : (win l w e).length <= l.length := by simp [win]; omega
def KeepTo (r : DRule) (l : List Bool) (n : Nat) : Prop := ∀ e, e < n -> stormZ (win l r.window.toNat e) <= r.most
def KeepsP (r : DRule) (l : List Bool) : Prop := r.Ok /\ KeepTo r l (l.length + 1)
noncomputable instance (r : DRule) (l : List Bool) : Decidable (KeepsP r l) := Classical.propDecidable _
theorem keepS {r : DRule} {l : List Bool} {n : Nat} (h : KeepTo r l n) (h2 : stormZ (win l r.window.toNat n) <= r.most) : KeepTo r l (n + 1) := by
 intro e he
 by_cases h3 : e = n
 ·rw [h3]; exact h2
 ·exact h e (by omega)
theorem storm_nil : stormZ [] = 0 := by rfl
theorem impl_last (l : List Bool) (n : Int) (hl : l.length <= 1048576) (hn : 0 <= n /\ n <= 1048576) : SC Tryz.prog 302 [.at (.im 1 (l.map boolRow)), .at (.v (.int .i64 n))] [] (.at (.im 1 ((l.drop (l.length - n.toNat)).map boolRow))) [] := by
 refine SC.of_W mixed Tryz.func302 (by kernel_rfl) rfl Tryz.results302 _ Tryz.ntmps302 (by simp) ?_
 simp -implicitDefEqProofs only [go_sem]
 rw [wrap64 (by omega) (by omega)]
 refine ⟨by omega, ?_⟩
 rw [<- List.map_drop, List.take_of_length_le (by simp only [List.length_map, List.length_drop]; omega), show (max ((l.length : Int) - n) 0).toNat = l.length - n.toNat by omega]
theorem win_last {l : List Bool} {w e : Nat} (h : e <= l.length) : (l.take e).drop (min e l.length - w) = win l w e := by
 rw [Nat.min_eq_left h, List.drop_take]; rfl
theorem impl_Keeps (r : DRule) (l : List Bool) (hl : l.length <= 1048576) : SC Tryz.prog 274 [.ag r.ats, .at (.im 1 (l.map boolRow))] [] (.at (.v (.bool (decide (KeepsP r l))))) [] := by
 refine SC.of_V mixed Tryz.func274 (by kernel_rfl) rfl Tryz.results274 _ Tryz.ntmps274 (by simp) ?_
 simp -implicitDefEqProofs only [go_sem]
 refine callX [] (impl_IsRule r) (by simp -implicitDefEqProofs only [go_sem]) ?_
 simp -implicitDefEqProofs only [go_sem]
 refine ⟨fun h1 => dec_f fun h => h1 h.1, fun h1 => ?_⟩
 rw [wrap64 (by omega) (by omega)]
 refine T.loopW mixed [1, 2, 11, 12] (fun mm vs es => ∃ (i : Nat), vs = [.at (.im 1 (l.map boolRow)), .at (.bx 100 0 0), .at (.v (.int .i64 (l.length + 1))), .at (.v (.int .i64 i))] /\ es = [.box 0 r.ats] /\ mm + i = l.length + 1 /\ KeepTo r l i) (l.length + 1) ?_ ?_
 ·simp -implicitDefEqProofs only [go_sem]; exact ⟨0, rfl, by omega, fun e he => absurd he (by omega)⟩
 rintro n _ _ ⟨i, rfl, rfl, hn, hi⟩
 simp -implicitDefEqProofs only [go_sem]
 refine ⟨fun h => ?_, fun h => dec_t ⟨h1, fun e he => hi e (by omega)⟩⟩
 refine ⟨some [], by decide +kernel, ?_⟩
 simp -implicitDefEqProofs only [go_sem]
 refine ⟨by omega, ?_⟩
 have e1 : List.take (i - Int.toNat 0) (List.drop (Int.toNat 0) (l.map boolRow)) = (l.take i).map boolRow := by
  rw [show Int.toNat 0 = 0 from rfl, List.drop_zero, Nat.sub_zero, List.map_take]
 rw [e1]
 have hw := h1.1
 refine callXQ [] (impl_last (l.take i) r.window (by simp; omega) (by omega)) (by simp -implicitDefEqProofs only [go_sem]) ?_
 simp -implicitDefEqProofs only [go_sem]
 refine callXQ [] (impl_CountStorms ((l.take i).drop ((l.take i).length - r.window.toNat)) (by simp; omega)) (by simp -implicitDefEqProofs only [go_sem]) ?_
 simp -implicitDefEqProofs only [go_sem]
 rw [win_last (by omega), wrap64 (by omega) (by omega)]
 exact ⟨fun h2 => dec_f fun hk => by have := hk.2 i (by omega); omega, fun h2 => ⟨n - 1, by omega, i + 1, rfl, by omega, keepS hi (by omega)⟩⟩
theorem spec_Keeps (r : DRule) (l : List Bool) (hl : l.length <= 1048576) : SC Tryz.prog 217 [.ag r.ats, .at (.im 1 (l.map boolRow))] [] (.at (.v (.bool (decide (KeepsP r l))))) [] := by
 refine SC.of_V mixed Tryz.func217 (by kernel_rfl) rfl Tryz.results217 _ Tryz.ntmps217 (by simp) ?_
 simp -implicitDefEqProofs only [go_sem]
 refine callX [] (spec_IsRule r) (by simp -implicitDefEqProofs only [go_sem]) ?_
 simp -implicitDefEqProofs only [go_sem]
 refine ⟨fun h1 => dec_f fun h => h1 h.1, fun h1 => ?_⟩
 refine T.loopW mixed [1, 2, 5] (fun mm vs es => ∃ (i : Nat), vs = [.at (.im 1 (l.map boolRow)), .at (.bx 100 0 0), .at (.v (.int .i64 i))] /\ es = [.box 0 r.ats] /\ mm + i = l.length /\ KeepTo r l (i + 1)) l.length ?_ ?_
 ·simp -implicitDefEqProofs only [go_sem]; exact ⟨0, rfl, by omega, keepS (fun e he => absurd he (by omega)) (by rw [win_0, storm_nil]; exact h1.2.1)⟩
 rintro n _ _ ⟨i, rfl, rfl, hn, hi⟩
 simp -implicitDefEqProofs only [go_sem]
 refine ⟨fun h => ?_, fun h => dec_t ⟨h1, fun e he => hi e (by omega)⟩⟩
 refine ⟨some [], by decide +kernel, ?_⟩
 simp -implicitDefEqProofs only [go_sem]
 have hw := h1.1
 rw [wrap64 (x := (i : Int) + 1) (by omega) (by omega), wrap64 (x := (i : Int) + 1 - r.window) (by omega) (by omega)]
 refine callXQ [] (spec_Max 0 ((i : Int) + 1 - r.window)) (by simp -implicitDefEqProofs only [go_sem]) ?_
 simp -implicitDefEqProofs only [go_sem]
 rw [wrap64 (x := (i : Int) + 1) (by omega) (by omega)]
 refine ⟨by omega, ?_⟩
 have e1 : List.take (((i : Int) + 1).toNat - (max 0 ((i : Int) + 1 - r.window)).toNat) (List.drop (max 0 ((i : Int) + 1 - r.window)).toNat (l.map boolRow)) = (win l r.window.toNat (i + 1)).map boolRow := by
  rw [show (max 0 ((i : Int) + 1 - r.window)).toNat = i + 1 - r.window.toNat by omega, show ((i : Int) + 1).toNat = i + 1 by omega, <- List.map_drop, <- List.map_take]; rfl
 rw [e1]
 refine callXQ [] (spec_CountStorms (win l r.window.toNat (i + 1)) (Nat.le_trans win_len hl)) (by simp -implicitDefEqProofs only [go_sem]) ?_
 simp -implicitDefEqProofs only [go_sem]
 rw [wrap64 (by omega) (by omega)]
 exact ⟨fun h2 => dec_f fun hk => by have := hk.2 (i + 1) (by omega); omega, fun h2 => ⟨n - 1, by omega, i + 1, rfl, by omega, keepS hi (by omega)⟩⟩
theorem impl_KeepsRule (t : DTrek) (hl : t.party.past.length <= 1048576) : SC Tryz.prog 198 [.ag t.ats] [] (.at (.v (.bool (decide (KeepsP t.rule t.party.past))))) [] := by
 refine SC.of_V mixed Tryz.func198 (by kernel_rfl) rfl Tryz.results198 _ Tryz.ntmps198 (by simp) ?_
 simp -implicitDefEqProofs only [go_sem]
 refine callX [] (impl_Keeps t.rule t.party.past hl) (by simp -implicitDefEqProofs only [go_sem]) ?_
 simp -implicitDefEqProofs only [go_sem]
def writtenP (t : DTrek) : Prop := Journal t.journal /\ (t.journal.length = 0 \/ ((prevP t.journal t.journal.length).day = t.day /\ (prevP t.journal t.journal.length).cell = t.party.at_))
noncomputable instance (t : DTrek) : Decidable (writtenP t) := Classical.propDecidable _
theorem impl_IsWritten (t : DTrek) (hl : t.journal.length <= 1048576) (hw : ∀ p ∈ t.journal, p.wf) : SC Tryz.prog 199 [.ag t.ats] [] (.at (.v (.bool (decide (writtenP t))))) [] := by
 refine SC.of_V mixed Tryz.func199 (by kernel_rfl) rfl Tryz.results199 _ Tryz.ntmps199 (by simp) ?_
 simp -implicitDefEqProofs only [go_sem]
 refine ⟨some [], by decide +kernel, ?_⟩
 simp -implicitDefEqProofs only [go_sem]
 refine callXQ [] (impl_IsJournal t.journal hl hw) (by simp -implicitDefEqProofs only [go_sem]) ?_
 simp -implicitDefEqProofs only [go_sem]
 refine ⟨fun h1 => ?_, fun h1 => dec_f fun h => h1 h.1⟩
 refine ⟨fun h2 => ?_, fun h2 => dec_t ⟨h1, .inl (by omega)⟩⟩
 rw [wrap64 (by omega) (by omega), show ((t.journal.length : Int) - 1).toNat = t.journal.length - 1 by omega]
 refine ⟨by omega, fun p hp => ?_⟩
 have e := prevP_get hp (by omega)
 refine ⟨fun h3 => ⟨by omega, fun p2 hp2 => ?_⟩, fun h3 => dec_f fun h4 => ?_⟩
 ·have e2 : p2 = p := by rw [hp] at hp2; exact (Option.some.inj hp2).symm
  rw [e2]
  refine decide_eq_decide.2 ⟨fun h4 => ⟨h1, .inr (by rw [e]; exact ⟨h3, h4⟩)⟩, fun h4 => ?_⟩
  rcases h4.2 with h5 | h5
  ·omega
  ·rw [e] at h5; exact h5.2
 ·rcases h4.2 with h5 | h5
  ·omega
  ·rw [e] at h5; exact h3 h5.1
end Go.Abs
