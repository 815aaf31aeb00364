/- Ways home that are drawn. -/
import Derived.Test.YtgnomlceahpbkaaGreatADrawT
import Derived.Test.YtgnomlceahpbkaaGreatAFrz
import Derived.Test.YtgnomlceahpbkaaGreatALay
import Derived.Test.YtgnomlceahpbkaaGreatAHome
import Derived.Test.YtgnomlceahpbkaaGreatASafe
namespace Go.Abs
open Go.RowKit Go.Proofs
set_option linter.unusedVariables false
set_option linter.unusedSimpArgs false
set_option maxRecDepth 100000
set_option maxHeartbeats 4000000

/-! ### Cells within days -/
def reachTo (d : List Int) (n : Int) (i : Nat) : List Int := ((List.range i).filter fun (c : Nat) => decide (0 ≤ dist d c ∧ dist d c ≤ n)).map fun (c : Nat) => (c : Int)
theorem reach_yes {d : List Int} {n : Int} {c : Nat} (h : 0 ≤ dist d c ∧ dist d c ≤ n) : reachTo d n (c + 1) = reachTo d n c ++ [(c : Int)] := by
  simp [reachTo, List.range_succ, List.filter_append, h]
theorem reach_no {d : List Int} {n : Int} {c : Nat} (h : ¬ (0 ≤ dist d c ∧ dist d c ≤ n)) : reachTo d n (c + 1) = reachTo d n c := by
  have h2 : ¬ (0 ≤ dist d c ∧ dist d c ≤ n) := h
  simp only [reachTo, List.range_succ, List.filter_append, List.filter_cons, List.filter_nil, List.map_append]
  rw [if_neg (by simpa using h2)]; simp
theorem reach_len {d : List Int} {n : Int} {i : Nat} : (reachTo d n i).length ≤ i := by
  have := List.length_filter_le (fun (c : Nat) => decide (0 ≤ dist d c ∧ dist d c ≤ n)) (List.range i)
  rw [List.length_range] at this
  unfold reachTo
  rw [List.length_map]; exact this
noncomputable def reachZ (x : DLand) (a n : Int) : List Int := if x.Open a then reachTo (stepsZ x [a]) n (stepsZ x [a]).length else []
theorem reachZ_mem {x : DLand} {a n e : Int} (h : e ∈ reachZ x a n) : 0 ≤ e ∧ e ≤ 63 := by
  unfold reachZ at h
  split at h
  · rename_i ho
    obtain ⟨c, hc, rfl⟩ := List.mem_map.1 h
    have h1 := List.mem_range.1 (List.mem_filter.1 hc).1
    have h2 := stepsZ_len x [a]
    have h3 := ho.1.1.len
    omega
  · cases h
theorem reachZ_len {x : DLand} {a n : Int} : (reachZ x a n).length ≤ 64 := by
  unfold reachZ
  split
  · rename_i ho
    have h2 := stepsZ_len x [a]
    have h3 := ho.1.1.len
    exact Nat.le_trans reach_len (by omega)
  · exact Nat.zero_le _
theorem spec_Reach (x : DLand) (a n : Int) (hx : x.cells.length ≤ 1048576) : SC Tryz.prog 252 [.ag x.ats, .at (.v (.int .i64 a)), .at (.v (.int .i64 n))] [] (.at (.fr 1 ((reachZ x a n).map intRow))) [] := by
  refine SC.of_W mixed Tryz.func252 (by kernel_rfl) rfl Tryz.results252 _ Tryz.ntmps252 (by simp) ?_
  simp -implicitDefEqProofs only [go_sem]
  refine callX [] (spec_IsOpen x a hx) (by simp -implicitDefEqProofs only [go_sem]) ?_
  simp -implicitDefEqProofs only [go_sem]
  refine ⟨fun ho => by rw [reachZ, if_neg ho]; exact ⟨rfl, rfl⟩, fun ho => ?_⟩
  rw [reachZ, if_pos ho]
  refine callX [] (spec_l5From x a ho hx) (by simp -implicitDefEqProofs only [go_sem]) ?_
  simp -implicitDefEqProofs only [go_sem]
  have h2 := stepsZ_len x [a]
  have h3 := ho.1.1.len
  refine T.loopW mixed [2, 7, 8, 9] (fun mm vs es => ∃ (i : Nat), vs = [.at (.v (.int .i64 n)), .at (.ow 100 0 1 ((reachTo (stepsZ x [a]) n i).length)), .at (.ow 101 0 1 ((stepsZ x [a]).length)), .at (.v (.int .i64 (i : Nat)))] ∧ es = [.arr 0 1 ((reachTo (stepsZ x [a]) n i).map intRow), .arr 0 1 ((stepsZ x [a]).map intRow)] ∧ mm + i = (stepsZ x [a]).length) ((stepsZ x [a]).length) ?_ ?_
  · simp -implicitDefEqProofs only [go_sem]
    exact ⟨0, ⟨rfl, rfl⟩, rfl, by omega⟩
  rintro q _ _ ⟨i, rfl, rfl, hn⟩
  simp -implicitDefEqProofs only [go_sem]
  have hr := reach_len (d := stepsZ x [a]) (n := n) (i := i)
  refine ⟨fun hlt => ⟨by omega, by omega, fun c hcc => ?_⟩, fun hlt => ?_⟩
  · have ev : dist (stepsZ x [a]) (i : Int) = c := dist_get (by rw [Int.toNat_natCast]; exact hcc)
    refine ⟨fun h0 => ⟨by omega, by omega, fun c2 hcc2 => ?_⟩, fun h0 => ?_⟩
    · rw [same hcc hcc2]
      refine ⟨fun h1 => ?_, fun h1 => ?_⟩
      · have e := reach_yes (d := stepsZ x [a]) (n := n) (c := i) ⟨by omega, by omega⟩
        exact ⟨room_s (by omega) (by decide), q - 1, by omega, i + 1, ⟨by rw [e]; simp, wrapS (by omega) (by omega) (by omega)⟩, by rw [e]; simp [intRow], by omega⟩
      · have e := reach_no (d := stepsZ x [a]) (n := n) (c := i) (fun h => h1 (by omega))
        exact ⟨q - 1, by omega, i + 1, ⟨by rw [e], wrapS (by omega) (by omega) (by omega)⟩, by rw [e], by omega⟩
    · have e := reach_no (d := stepsZ x [a]) (n := n) (c := i) (fun h => h0 (by omega))
      exact ⟨q - 1, by omega, i + 1, ⟨by rw [e], wrapS (by omega) (by omega) (by omega)⟩, by rw [e], by omega⟩
  · have e : i = (stepsZ x [a]).length := by omega
    rw [← e]
    exact ⟨rfl, rfl⟩
/-! ### Depots that are drawn -/
noncomputable def dep8F (x : DLand) : Nat → DCur → List DDepot → List DDepot × DCur
  | 0, s, l => (l, s)
  | n + 1, s, l => dep8F x n (belowS (belowS s 20) 30) (layL x l (belowV s 20) (1 + belowV (belowS s 20) 30))
theorem dep8F_ok {x : DLand} : ∀ (n : Nat) (s : DCur) (l : List DDepot), s.Ok → l.length ≤ 20 → (dep8F x n s l).2.Ok ∧ (dep8F x n s l).1.length ≤ 20 := by
  intro n
  induction n with
  | zero => intro s l h hl; exact ⟨h, hl⟩
  | succ n ih => intro s l h hl; exact ih _ _ (belowS_ok (belowS_ok h 20) 30) (layL_len hl (Nat.le_refl _))
noncomputable def dep8 (s : DCur) (x : DLand) : List DDepot × DCur := dep8F x (belowV s 4).toNat (belowS s 4) []
theorem dep8_ok {s : DCur} {x : DLand} (h : s.Ok) : (dep8 s x).2.Ok ∧ (dep8 s x).1.length ≤ 20 := dep8F_ok _ _ _ (belowS_ok h 4) (Nat.zero_le _)
theorem spec_l8Draw (s : DCur) (x : DLand) (h : s.Ok) (hx : x.cells.length ≤ 1048576) : SC Tryz.prog 223 [.at (.bx 0 0 0), .ag x.ats] [.box 0 s.ats] (.at (.fr 2 ((dep8 s x).1.map DDepot.row))) [.box 0 (dep8 s x).2.ats] := by
  refine SC.of_M mixed Tryz.func223 (by kernel_rfl) rfl Tryz.results223 _ Tryz.ntmps223 (by simp) (by simp) ?_
  simp -implicitDefEqProofs only [go_sem, invOf]
  refine callXNB [0] [] (spec_l1Below s 4 h) (by decide) (by simp -implicitDefEqProofs only [go_sem]) (by simp -implicitDefEqProofs only [go_sem]) ?_
  simp -implicitDefEqProofs only [go_sem, invOf]
  have hb := belowV_bnd s 4
  have hb2 := hb.2.1 (by omega)
  have hn : (((belowV s 4).toNat : Nat) : Int) = belowV s 4 := by omega
  unfold dep8
  generalize hA : dep8F x (belowV s 4).toNat (belowS s 4) [] = A
  refine T.loopN mixed (show 1 ≤ 100 by decide) [0, 3, 5, 6] (fun mm vs ex es => ∃ (y : DCur) (l : List DDepot) (i : Nat), vs = [.at (.bx 0 0 0), .at (.bx 100 0 0), .at (.ow 101 0 2 l.length), .at (.v (.int .i64 (i : Nat)))] ∧ ex = [.box 0 y.ats] ∧ es = [.box 0 x.ats, .arr 0 2 (l.map DDepot.row)] ∧ mm = i ∧ i ≤ 4 ∧ y.Ok ∧ dep8F x mm y l = A ∧ l.length ≤ 20) ((belowV s 4).toNat) ?_ ?_
  · simp -implicitDefEqProofs only [go_sem, invOf]
    exact ⟨belowS s 4, [], (belowV s 4).toNat, ⟨rfl, hn.symm⟩, rfl, rfl, rfl, by omega, belowS_ok h 4, hA, Nat.zero_le _⟩
  rintro q _ _ _ ⟨y, l, i, rfl, rfl, rfl, hq, hi4, hy, hA2, hl⟩ -
  simp -implicitDefEqProofs only [go_sem, invOf]
  refine ⟨fun hi => ?_, fun hi => ?_⟩
  · obtain ⟨k, rfl⟩ : ∃ k, q = k + 1 := ⟨q - 1, by omega⟩
    rw [dep8F] at hA2
    refine ⟨some [0], by decide +kernel, ?_⟩
    simp -implicitDefEqProofs only [go_sem]
    refine callXNQ [0] [] (by decide) (spec_l1Below y 20 hy) (by decide) (by simp -implicitDefEqProofs only [go_sem]) (by simp -implicitDefEqProofs only [go_sem]) ?_
    simp -implicitDefEqProofs only [go_sem, invOf]
    refine callXNQ [0] [] (by decide) (spec_l1Below (belowS y 20) 30 (belowS_ok hy 20)) (by decide) (by simp -implicitDefEqProofs only [go_sem]) (by simp -implicitDefEqProofs only [go_sem]) ?_
    simp -implicitDefEqProofs only [go_sem, invOf]
    have hv := belowV_bnd (belowS y 20) 30
    have hv2 := hv.2.1 (by omega)
    rw [wrap64 (x := 1 + belowV (belowS y 20) 30) (by omega) (by omega)]
    refine callXQ [101] (spec_Lay x l (belowV y 20) (1 + belowV (belowS y 20) 30) hx (by omega)) (by simp -implicitDefEqProofs only [go_sem]) ?_
    simp -implicitDefEqProofs only [go_sem]
    simp -implicitDefEqProofs only [go_sem, invOf]
    exact ⟨k, by omega, belowS (belowS y 20) 30, layL x l (belowV y 20) (1 + belowV (belowS y 20) 30), k, ⟨rfl, by rw [wrap64 (by omega) (by omega)]; omega⟩, rfl, rfl, rfl, by omega, belowS_ok (belowS_ok hy 20) 30, hA2, layL_len hl (Nat.le_refl _)⟩
  · obtain rfl : q = 0 := by omega
    rw [dep8F] at hA2
    subst hA2
    exact ⟨rfl, rfl, rfl⟩
/-! ### Parties that are drawn -/
noncomputable def p9f (s : DCur) : Int := belowV s 60
noncomputable def p9c (s : DCur) : List DMember × DCur := c7 (belowS s 60)
noncomputable def p9n (s : DCur) : Nat := (belowV (p9c s).2 8).toNat
noncomputable def p9p (r : DRule) (s : DCur) : List Bool × DCur := pastF r (p9n s) (belowS (p9c s).2 8) []
noncomputable def par9 (s : DCur) (x : DLand) (r : DRule) : DParty × DCur :=
  if 0 < (reachZ x 0 99).length then (⟨(reachZ x 0 99).getD (belowV (p9p r s).2 (reachZ x 0 99).length).toNat 0, p9f s, (p9c s).1, (p9p r s).1⟩, belowS (p9p r s).2 (reachZ x 0 99).length)
  else (⟨0, p9f s, (p9c s).1, (p9p r s).1⟩, (p9p r s).2)
theorem p9c_ok {s : DCur} (h : s.Ok) : (p9c s).2.Ok ∧ (p9c s).1.length ≤ 5 := by
  have := c7_ok (belowS_ok h 60)
  exact ⟨this.2.1, this.1.2⟩
theorem par9_1 {s : DCur} {x : DLand} {r : DRule} (h : 0 < (reachZ x 0 99).length) : par9 s x r = (⟨(reachZ x 0 99).getD (belowV (p9p r s).2 (reachZ x 0 99).length).toNat 0, p9f s, (p9c s).1, (p9p r s).1⟩, belowS (p9p r s).2 (reachZ x 0 99).length) := if_pos h
theorem par9_0 {s : DCur} {x : DLand} {r : DRule} (h : ¬ 0 < (reachZ x 0 99).length) : par9 s x r = (⟨0, p9f s, (p9c s).1, (p9p r s).1⟩, (p9p r s).2) := if_neg h
structure Lean9 (p : DParty) : Prop where
  crew : p.crew.length ≤ 5
  past : p.past.length ≤ 7
  at_ : 0 ≤ p.at_ ∧ p.at_ ≤ 63
  food : 0 ≤ p.food ∧ p.food ≤ 60
theorem par9_ok {s : DCur} {x : DLand} {r : DRule} (h : s.Ok) : Lean9 (par9 s x r).1 ∧ (par9 s x r).2.Ok := by
  have hc := p9c_ok h
  have hb := belowV_bnd (p9c s).2 8
  have hb2 := hb.2.1 (by omega)
  have hf := belowV_bnd s 60
  have hf2 := hf.2.1 (by omega)
  have hp := pastF_ok (r := r) (p9n s) (belowS (p9c s).2 8) [] (belowS_ok hc.1 8)
  rw [show pastF r (p9n s) (belowS (p9c s).2 8) [] = p9p r s from rfl] at hp
  have hpl : (p9p r s).1.length ≤ 7 := by
    have := hp.2
    unfold p9n at this
    simp only [List.length_nil] at this
    omega
  by_cases h0 : 0 < (reachZ x 0 99).length
  · rw [par9_1 h0]
    have hv := belowV_bnd (p9p r s).2 (reachZ x 0 99).length
    have hv2 := hv.2.1 (by omega)
    refine ⟨⟨hc.2, hpl, ?_, by unfold p9f; simp only []; omega⟩, belowS_ok hp.1 _⟩
    have hi : (belowV (p9p r s).2 (reachZ x 0 99).length).toNat < (reachZ x 0 99).length := by omega
    simp only []
    rw [List.getD_eq_getElem?_getD, List.getElem?_eq_getElem hi]
    exact reachZ_mem (List.getElem_mem hi)
  · rw [par9_0 h0]
    exact ⟨⟨hc.2, hpl, ⟨Int.le_refl 0, show (0 : Int) ≤ 63 by decide⟩, by unfold p9f; simp only []; omega⟩, hp.1⟩
theorem spec_l9Draw (s : DCur) (x : DLand) (r : DRule) (h : s.Ok) (hx : x.cells.length ≤ 1048576) : SC Tryz.prog 224 [.at (.bx 0 0 0), .ag x.ats, .ag r.ats] [.box 0 s.ats] (.ag (par9 s x r).1.frs) [.box 0 (par9 s x r).2.ats] := by
  have hc := p9c_ok h
  have hb := belowV_bnd (p9c s).2 8
  have hb2 := hb.2.1 (by omega)
  have hn : ((p9n s : Nat) : Int) = belowV (p9c s).2 8 := by unfold p9n; omega
  have hp := pastF_ok (r := r) (p9n s) (belowS (p9c s).2 8) [] (belowS_ok hc.1 8)
  rw [show pastF r (p9n s) (belowS (p9c s).2 8) [] = p9p r s from rfl] at hp
  refine SC.of_M mixed Tryz.func224 (by kernel_rfl) rfl Tryz.results224 _ Tryz.ntmps224 (by simp) (by simp) ?_
  simp -implicitDefEqProofs only [go_sem, invOf]
  refine ⟨some [0, 1112], by decide +kernel, ?_⟩
  simp -implicitDefEqProofs only [go_sem]
  refine callXNQ [0] [] (by decide) (spec_l1Below s 60 h) (by decide) (by simp -implicitDefEqProofs only [go_sem]) (by simp -implicitDefEqProofs only [go_sem]) ?_
  simp -implicitDefEqProofs only [go_sem, invOf]
  refine callXNQ [0] [] (by decide) (spec_l7Draw (belowS s 60) (belowS_ok h 60)) (by decide) (by simp -implicitDefEqProofs only [go_sem]) (by simp -implicitDefEqProofs only [go_sem]) ?_
  simp -implicitDefEqProofs only [go_sem, invOf]
  rw [show crew7F 5 (belowS s 60) 1 [] = p9c s from rfl]
  refine callXNQ [0] [] (by decide) (spec_l1Below (p9c s).2 8 hc.1) (by decide) (by simp -implicitDefEqProofs only [go_sem]) (by simp -implicitDefEqProofs only [go_sem]) ?_
  simp -implicitDefEqProofs only [go_sem, invOf]
  rw [← hn]
  refine callXNQ [0] [] (by decide) (spec_l6Past (belowS (p9c s).2 8) r (p9n s) (belowS_ok hc.1 8) (by omega)) (by decide) (by simp -implicitDefEqProofs only [go_sem]) (by simp -implicitDefEqProofs only [go_sem]) ?_
  simp -implicitDefEqProofs only [go_sem, invOf]
  rw [show pastF r (p9n s) (belowS (p9c s).2 8) [] = p9p r s from rfl]
  refine callX [] (spec_Reach x 0 99 hx) (by simp -implicitDefEqProofs only [go_sem]) ?_
  simp -implicitDefEqProofs only [go_sem]
  have hrl := reachZ_len (x := x) (a := 0) (n := 99)
  refine ⟨fun h0 => ?_, fun h0 => ?_⟩
  · have e := par9_1 (s := s) (x := x) (r := r) (by omega)
    refine callXNB [0] [] (spec_l1Below (p9p r s).2 (reachZ x 0 99).length hp.1) (by decide) (by simp -implicitDefEqProofs only [go_sem]) (by simp -implicitDefEqProofs only [go_sem]) ?_
    simp -implicitDefEqProofs only [go_sem, invOf]
    have hv := belowV_bnd (p9p r s).2 (reachZ x 0 99).length
    have hv2 := hv.2.1 (by omega)
    refine ⟨by omega, by omega, fun c hcc => ?_⟩
    rw [e]
    exact ⟨⟨by simp only []; rw [List.getD_eq_getElem?_getD, hcc]; rfl, rfl, rfl, rfl⟩, rfl, rfl, rfl⟩
  · have e := par9_0 (s := s) (x := x) (r := r) (by omega)
    simp -implicitDefEqProofs only [go_sem, invOf]
    rw [e]
    exact ⟨⟨rfl, rfl, rfl, rfl⟩, rfl, rfl, rfl⟩
/-! ### A way home that is drawn -/
structure DCase where
  x : DLand
  base : Int
  r : DRule
  l : List DDepot
  p : DParty
def c10x (s : DCur) : DLand × DCur := landF s
noncomputable def c10l (s : DCur) : List DDepot × DCur := dep8 (ruleS (c10x s).2) (c10x s).1
noncomputable def c10p (s : DCur) : DParty × DCur := par9 (c10l s).2 (c10x s).1 (ruleV (c10x s).2)
noncomputable def c10K (s : DCur) : Int := belowV (c10p s).2 12
noncomputable def c10S (s : DCur) : DCur := belowS (c10p s).2 12
noncomputable def case10 (s : DCur) : DCase × DCur :=
  if c10K s = 0 then (⟨(c10x s).1, belowV (c10S s) 20, ruleV (c10x s).2, (c10l s).1, (c10p s).1⟩, belowS (c10S s) 20)
  else if c10K s = 1 then (⟨(anyF (c10S s)).1, 0, ruleV (c10x s).2, (c10l s).1, (c10p s).1⟩, (anyF (c10S s)).2)
  else if c10K s = 2 then (⟨(c10x s).1, 0, { ruleV (c10x s).2 with most := (ruleV (c10x s).2).window }, (c10l s).1, (c10p s).1⟩, c10S s)
  else if c10K s = 3 then (⟨(c10x s).1, 0, ruleV (c10x s).2, (c10l s).1, { (c10p s).1 with food := 0 }⟩, c10S s)
  else (⟨(c10x s).1, 0, ruleV (c10x s).2, (c10l s).1, (c10p s).1⟩, c10S s)
theorem case10_0 {s : DCur} (h : c10K s = 0) : case10 s = (⟨(c10x s).1, belowV (c10S s) 20, ruleV (c10x s).2, (c10l s).1, (c10p s).1⟩, belowS (c10S s) 20) := if_pos h
theorem case10_1 {s : DCur} (h0 : ¬ c10K s = 0) (h : c10K s = 1) : case10 s = (⟨(anyF (c10S s)).1, 0, ruleV (c10x s).2, (c10l s).1, (c10p s).1⟩, (anyF (c10S s)).2) := by rw [case10, if_neg h0, if_pos h]
theorem case10_2 {s : DCur} (h0 : ¬ c10K s = 0) (h1 : ¬ c10K s = 1) (h : c10K s = 2) : case10 s = (⟨(c10x s).1, 0, { ruleV (c10x s).2 with most := (ruleV (c10x s).2).window }, (c10l s).1, (c10p s).1⟩, c10S s) := by rw [case10, if_neg h0, if_neg h1, if_pos h]
theorem case10_3 {s : DCur} (h0 : ¬ c10K s = 0) (h1 : ¬ c10K s = 1) (h2 : ¬ c10K s = 2) (h : c10K s = 3) : case10 s = (⟨(c10x s).1, 0, ruleV (c10x s).2, (c10l s).1, { (c10p s).1 with food := 0 }⟩, c10S s) := by rw [case10, if_neg h0, if_neg h1, if_neg h2, if_pos h]
theorem case10_4 {s : DCur} (h0 : ¬ c10K s = 0) (h1 : ¬ c10K s = 1) (h2 : ¬ c10K s = 2) (h : ¬ c10K s = 3) : case10 s = (⟨(c10x s).1, 0, ruleV (c10x s).2, (c10l s).1, (c10p s).1⟩, c10S s) := by rw [case10, if_neg h0, if_neg h1, if_neg h2, if_neg h]
theorem cur_plainU {y : DCur} : ∀ e ∈ [Ent.box 0 y.ats], e.plain = true := by simp [Ent.plain, DCur.ats, A.plain]
theorem spec_l10Case (s : DCur) (h : s.Ok) : SC Tryz.prog 147 [.at (.bx 0 0 0)] [.box 0 s.ats] (.tp [.ag (case10 s).1.x.ats, .at (.v (.int .i64 ((case10 s).1.base))), .ag (case10 s).1.r.ats, .at (.fr 2 ((case10 s).1.l.map DDepot.row)), .ag (case10 s).1.p.frs]) [.box 0 (case10 s).2.ats] := by
  have hx := landF_ok h
  rw [show landF s = c10x s from rfl] at hx
  have hr : (ruleS (c10x s).2).Ok := ruleS_ok hx.2
  have hl := dep8_ok (x := (c10x s).1) hr
  rw [show dep8 (ruleS (c10x s).2) (c10x s).1 = c10l s from rfl] at hl
  have hp := par9_ok (x := (c10x s).1) (r := ruleV (c10x s).2) hl.1
  rw [show par9 (c10l s).2 (c10x s).1 (ruleV (c10x s).2) = c10p s from rfl] at hp
  have hxl := hx.1.cnt
  have hS : (c10S s).Ok := belowS_ok hp.2 12
  refine SC.of_M mixed Tryz.func147 (by kernel_rfl) rfl Tryz.results147 _ Tryz.ntmps147 (by simp) (by simp) ?_
  simp -implicitDefEqProofs only [go_sem, invOf]
  refine callXNB [0] [] (spec_l4Draw s h) (by decide) (by simp -implicitDefEqProofs only [go_sem]) (by simp -implicitDefEqProofs only [go_sem]) ?_
  simp -implicitDefEqProofs only [go_sem, invOf]
  rw [show landF s = c10x s from rfl]
  refine callXNB [0] [] (spec_l6Rule (c10x s).2 hx.2) (by decide) (by simp -implicitDefEqProofs only [go_sem]) (by simp -implicitDefEqProofs only [go_sem]) ?_
  simp -implicitDefEqProofs only [go_sem, invOf]
  refine callXNB [0] [1208] (spec_l8Draw (ruleS (c10x s).2) (c10x s).1 hr (by omega)) (by decide) (by simp -implicitDefEqProofs only [go_sem]) (by simp -implicitDefEqProofs only [go_sem]) ?_
  simp -implicitDefEqProofs only [go_sem, invOf]
  rw [show dep8 (ruleS (c10x s).2) (c10x s).1 = c10l s from rfl]
  refine callXNB [0] [] (spec_l9Draw (c10l s).2 (c10x s).1 (ruleV (c10x s).2) hl.1 (by omega)) (by decide) (by simp -implicitDefEqProofs only [go_sem]) (by simp -implicitDefEqProofs only [go_sem]) ?_
  simp -implicitDefEqProofs only [go_sem, invOf]
  rw [show par9 (c10l s).2 (c10x s).1 (ruleV (c10x s).2) = c10p s from rfl]
  refine callXNB [0] [] (spec_l1Below (c10p s).2 12 hp.2) (by decide) (by simp -implicitDefEqProofs only [go_sem]) (by simp -implicitDefEqProofs only [go_sem]) ?_
  simp -implicitDefEqProofs only [go_sem, invOf]
  rw [show belowV (c10p s).2 12 = c10K s from rfl, show belowS (c10p s).2 12 = c10S s from rfl]
  refine ⟨fun k0 => ?_, fun k0 => ⟨fun k1 => ?_, fun k1 => ⟨fun k2 => ?_, fun k2 => ⟨fun k3 => ?_, fun k3 => ?_⟩⟩⟩⟩
  · rw [case10_0 k0]
    refine callXNB [0] [] (spec_l1Below (c10S s) 20 hS) (by decide) (by simp -implicitDefEqProofs only [go_sem]) (by simp -implicitDefEqProofs only [go_sem]) ?_
    simp -implicitDefEqProofs only [go_sem, invOf]
    refine ⟨some [1032, 1064, 1096], by decide +kernel, ?_⟩
    simp -implicitDefEqProofs only [go_sem, invOf]
  · rw [case10_1 k0 k1]
    refine callXNB [0] [] ((spec_l4Any (c10S s) hS).frozenX (by simp) cur_plainU) (by decide) (by simp -implicitDefEqProofs only [go_sem]) (by simp -implicitDefEqProofs only [go_sem]) ?_
    simp -implicitDefEqProofs only [go_sem, invOf]
    refine ⟨some [1032, 1064, 1096], by decide +kernel, ?_⟩
    simp -implicitDefEqProofs only [go_sem, invOf]
  · rw [case10_2 k0 k1 k2]
    simp -implicitDefEqProofs only [go_sem, invOf]
    refine ⟨some [1032, 1064, 1096], by decide +kernel, ?_⟩
    simp -implicitDefEqProofs only [go_sem, invOf]
  · rw [case10_3 k0 k1 k2 k3]
    simp -implicitDefEqProofs only [go_sem, invOf]
    refine ⟨some [1032, 1064, 1096], by decide +kernel, ?_⟩
    simp -implicitDefEqProofs only [go_sem, invOf]
  · rw [case10_4 k0 k1 k2 k3]
    simp -implicitDefEqProofs only [go_sem, invOf]
    refine ⟨some [1032, 1064, 1096], by decide +kernel, ?_⟩
    simp -implicitDefEqProofs only [go_sem, invOf]
structure Fine (c : DCase) : Prop where
  cells : c.x.cells.length ≤ 30
  depots : c.l.length ≤ 20
  party : Lean9 c.p
theorem case10_ok {s : DCur} (h : s.Ok) : Fine (case10 s).1 ∧ (case10 s).2.Ok := by
  have hx := landF_ok h
  rw [show landF s = c10x s from rfl] at hx
  have hr : (ruleS (c10x s).2).Ok := ruleS_ok hx.2
  have hl := dep8_ok (x := (c10x s).1) hr
  rw [show dep8 (ruleS (c10x s).2) (c10x s).1 = c10l s from rfl] at hl
  have hp := par9_ok (x := (c10x s).1) (r := ruleV (c10x s).2) hl.1
  rw [show par9 (c10l s).2 (c10x s).1 (ruleV (c10x s).2) = c10p s from rfl] at hp
  have hxl := hx.1.cnt
  have hS : (c10S s).Ok := belowS_ok hp.2 12
  have ha := anyF_ok hS
  unfold case10
  split
  · exact ⟨⟨hxl.2, hl.2, hp.1⟩, belowS_ok hS 20⟩
  split
  · exact ⟨⟨ha.1, hl.2, hp.1⟩, ha.2⟩
  split
  · exact ⟨⟨hxl.2, hl.2, hp.1⟩, hS⟩
  split
  · exact ⟨⟨hxl.2, hl.2, ⟨hp.1.crew, hp.1.past, hp.1.at_, by simp only []; omega⟩⟩, hS⟩
  · exact ⟨⟨hxl.2, hl.2, hp.1⟩, hS⟩
noncomputable def caseT (code : List Int) : DCase := (case10 (newCur code)).1
theorem spec_DrawCanReturn (code : List Int) (hl : code.length ≤ 1099511627776) : SC Tryz.prog 139 [.at (.im 1 (code.map byteRow))] [] (.tp [.ag (caseT code).x.ats, .at (.v (.int .i64 ((caseT code).base))), .ag (caseT code).r.ats, .at (.fr 2 ((caseT code).l.map DDepot.row)), .ag (caseT code).p.frs]) [] := by
  refine SC.of_W mixed Tryz.func139 (by kernel_rfl) rfl Tryz.results139 _ Tryz.ntmps139 (by simp) ?_
  simp -implicitDefEqProofs only [go_sem]
  refine callX [] (spec_l1New code hl) (by simp -implicitDefEqProofs only [go_sem]) ?_
  simp -implicitDefEqProofs only [go_sem]
  refine callXNB [1144] [] (spec_l10Case (newCur code) (newCur_ok hl)) (by decide) (by simp -implicitDefEqProofs only [go_sem]) (by simp -implicitDefEqProofs only [go_sem]) ?_
  simp -implicitDefEqProofs only [go_sem]
  rw [show (case10 (newCur code)).1 = caseT code from rfl]
  simp only [and_self]
theorem spec_DrawLatestTurn (code : List Int) (hl : code.length ≤ 1099511627776) : SC Tryz.prog 58 [.at (.im 1 (code.map byteRow))] [] (.tp [.ag (caseT code).x.ats, .at (.v (.int .i64 ((caseT code).base))), .ag (caseT code).r.ats, .at (.fr 2 ((caseT code).l.map DDepot.row)), .ag (caseT code).p.frs]) [] := by
  refine SC.of_W mixed Tryz.func58 (by kernel_rfl) rfl Tryz.results58 _ Tryz.ntmps58 (by simp) ?_
  simp -implicitDefEqProofs only [go_sem]
  refine callX [] (spec_DrawCanReturn code hl) (by simp -implicitDefEqProofs only [go_sem]) ?_
  simp -implicitDefEqProofs only [go_sem]
noncomputable def swC (code : List Int) : DCase × DCur := case10 (newCur code)
noncomputable def swA (code : List Int) : DCur := belowS (swC code).2 20
noncomputable def swW (code : List Int) : List Int := wayZ (swC code).1.x (swC code).1.p.at_ (belowV (swC code).2 20)
noncomputable def swB (code : List Int) : Bool := onceV (swA code) 8
noncomputable def swZ (code : List Int) : List Int := if swB code = true then swW code ++ [belowV (belowS (swA code) 8) 20] else swW code
theorem spec_DrawIsSafeWay (code : List Int) (hl : code.length ≤ 1099511627776) : SC Tryz.prog 65 [.at (.im 1 (code.map byteRow))] [] (.tp [.ag (caseT code).x.ats, .at (.v (.int .i64 ((caseT code).base))), .ag (caseT code).r.ats, .at (.fr 2 ((caseT code).l.map DDepot.row)), .ag (caseT code).p.frs, .at (.fr 1 ((swZ code).map intRow))]) [] := by
  have h := newCur_ok hl
  have hc := case10_ok h
  rw [show case10 (newCur code) = swC code from rfl] at hc
  refine SC.of_W mixed Tryz.func65 (by kernel_rfl) rfl Tryz.results65 _ Tryz.ntmps65 (by simp) ?_
  simp -implicitDefEqProofs only [go_sem]
  refine callX [] (spec_l1New code hl) (by simp -implicitDefEqProofs only [go_sem]) ?_
  simp -implicitDefEqProofs only [go_sem]
  refine callXNB [1256] [] (spec_l10Case (newCur code) h) (by decide) (by simp -implicitDefEqProofs only [go_sem]) (by simp -implicitDefEqProofs only [go_sem]) ?_
  simp -implicitDefEqProofs only [go_sem]
  rw [show case10 (newCur code) = swC code from rfl]
  refine ⟨some [1256], by decide +kernel, ?_⟩
  simp -implicitDefEqProofs only [go_sem]
  refine callXNQ [1256] [] (by decide) (spec_l1Below (swC code).2 20 hc.2) (by decide) (by simp -implicitDefEqProofs only [go_sem]) (by simp -implicitDefEqProofs only [go_sem]) ?_
  simp -implicitDefEqProofs only [go_sem]
  have hcl := hc.1.cells
  refine callXQ [] (spec_WayTo (swC code).1.x (swC code).1.p.at_ (belowV (swC code).2 20) (by omega)) (by simp -implicitDefEqProofs only [go_sem]) ?_
  simp -implicitDefEqProofs only [go_sem]
  rw [show wayZ (swC code).1.x (swC code).1.p.at_ (belowV (swC code).2 20) = swW code from rfl, show belowS (swC code).2 20 = swA code from rfl]
  have hA : (swA code).Ok := belowS_ok hc.2 20
  have hwl : (swW code).length ≤ 66 := wayZ_len _ _ _
  refine callXNB [1256] [] (spec_l1Once (swA code) 8 hA) (by decide) (by simp -implicitDefEqProofs only [go_sem]) (by simp -implicitDefEqProofs only [go_sem]) ?_
  simp -implicitDefEqProofs only [go_sem]
  rw [show onceV (swA code) 8 = swB code from rfl]
  refine ⟨fun h1 => ?_, fun h1 => ?_⟩
  · have e : swZ code = swW code ++ [belowV (belowS (swA code) 8) 20] := if_pos h1
    refine callXNB [1256] [] (spec_l1Below (belowS (swA code) 8) 20 (belowS_ok hA 8)) (by decide) (by simp -implicitDefEqProofs only [go_sem]) (by simp -implicitDefEqProofs only [go_sem]) ?_
    simp -implicitDefEqProofs only [go_sem]
    refine ⟨room_s (by omega) (by decide), ?_⟩
    refine ⟨some [1032, 1064, 1096], by decide +kernel, ?_⟩
    simp -implicitDefEqProofs only [go_sem]
    rw [e, show (swC code).1 = caseT code from rfl]
    simp [intRow]
  · have e : swZ code = swW code := if_neg (by rw [h1]; decide)
    refine ⟨some [1032, 1064, 1096], by decide +kernel, ?_⟩
    simp -implicitDefEqProofs only [go_sem]
    rw [e, show (swC code).1 = caseT code from rfl]
    simp only [and_self]
end Go.Abs
