/- The steps from cells to all cells; the days between two. -/
import Derived.Test.YthobmgkagcampaaGreatDoorANear
namespace Go.Abs
open Go.RowKit Go.Proofs
set_option linter.all false
set_option maxRecDepth 100000
theorem relax_q {a b : Int} {s : List Int × List Int} {k : Nat} {c : Int} (h : s.2[k]? = some c) : (relax a s b).2[k]? = some c := by
 unfold relax
 split
 ·simp only; rw [List.getElem?_append_left (List.getElem?_eq_some_iff.1 h).1]; exact h
 ·exact h
theorem fold_q {a : Int} {k : Nat} {c : Int} : ∀ {l : List Int} {s : List Int × List Int}, s.2[k]? = some c -> (l.foldl (relax a) s).2[k]? = some c := by
 intro l
 induction l with
 | nil => intro s h; exact h
 | cons b l ih => intro s h; exact ih (relax_q h)
theorem relax_yes {a b : Int} {s : List Int × List Int} (h : dist s.1 b < 0) : relax a s b = (s.1.set b.toNat (dist s.1 a + 1), s.2 ++ [b]) := if_pos h
theorem relax_no {a b : Int} {s : List Int × List Int} (h : ¬ dist s.1 b < 0) : relax a s b = s := if_neg h
theorem set_ints (l : List Int) (i : Nat) (v : Int) : (l.map intRow).set i (.int .i64 v :: List.drop 1 ((l.map intRow).getD i [])) = (l.set i v).map intRow := by
 have : List.drop 1 ((l.map intRow).getD i []) = [] := by
  rw [List.getD_eq_getElem?_getD, List.getElem?_map]
  cases l[i]? <;> rfl
 rw [this, List.map_set]; rfl
theorem rep_S {i : Nat} : (List.replicate i (-1 : Int)).map intRow ++ [[.int .i64 (-1)]] = (List.replicate (i + 1) (-1)).map intRow := by
 rw [List.replicate_succ']; simp [intRow]
theorem spec_l5From (x : DLand) (n : Int) (hc : x.Open n) (hl : x.cells.length <= 1048576) : SC Tryz.prog 233 [.ag x.ats, .at (.v (.int .i64 n))] [] (.at (.fr 1 ((stepsZ x [n]).map intRow))) [] := by
 refine SC.of_W mixed Tryz.func233 (by kernel_rfl) rfl Tryz.results233 _ Tryz.ntmps233 (by simp) ?_
 simp -implicitDefEqProofs only [go_sem]
 have hb := hc.1.1.len
 have h1 := hc.1.2
 refine T.loopW mixed [1, 2, 5, 6] (fun mm vs es => ∃ (i : Nat), vs = [.at (.v (.int .i64 n)), .at (.bx 100 0 0), .at (.ow 101 0 1 i), .at (.v (.int .i64 i))] /\ es = [.box 0 x.ats, .arr 0 1 ((List.replicate i (-1)).map intRow)] /\ mm + i = x.cells.length) x.cells.length ?_ ?_
 ·simp -implicitDefEqProofs only [go_sem]; exact ⟨0, ⟨rfl, rfl⟩, rfl, by omega⟩
 rintro q _ _ ⟨i, rfl, rfl, hn⟩
 simp -implicitDefEqProofs only [go_sem]
 refine ⟨fun h => ?_, fun h => ?_⟩
 ·exact ⟨roomN (by omega), q - 1, by omega, i + 1, ⟨rfl, by rw [wrap64 (by omega) (by omega)]; rfl⟩, rep_S, by omega⟩
 have e : i = x.cells.length := by omega
 subst e
 refine ⟨by omega, by omega, ?_⟩
 rw [set_ints]
 have hseed := seeds_one hc
 refine T.loopW mixed [2, 5, 7, 8] (fun mm vs es => ∃ (s : List Int × List Int) (k : Nat), vs = [.at (.bx 100 0 0), .at (.ow 101 0 1 s.1.length), .at (.ow 102 0 1 s.2.length), .at (.v (.int .i64 k))] /\ es = [.box 0 x.ats, .arr 0 1 (s.1.map intRow), .arr 0 1 (s.2.map intRow)] /\ mm + k = x.cells.length /\ Bfs x s k /\ stepsZ x [n] = bfs x (65 - k) s k) x.cells.length ?_ ?_
 ·simp -implicitDefEqProofs only [go_sem]
  refine ⟨seeds x [n], 0, ?_, ?_, by omega, Bfs.seeds _, rfl⟩
  ·rw [hseed]; simp
  ·rw [hseed]; simp [intRow]
 rintro q _ _ ⟨s, k, rfl, rfl, hn, hB, hst⟩
 simp -implicitDefEqProofs only [go_sem]
 have hql := hB.queue
 refine ⟨fun h => ?_, fun h => ?_⟩
 ·refine ⟨some [], by decide +kernel, ?_⟩
  simp -implicitDefEqProofs only [go_sem]
  refine ⟨by omega, by omega, fun a ha => ?_⟩
  have hop := hB.op a (List.mem_of_getElem? ha)
  refine callXQ [] (spec_l4Near x a hop.1.1 hl) (by simp -implicitDefEqProofs only [go_sem]) ?_
  simp -implicitDefEqProofs only [go_sem]
  refine T.loopW mixed [2, 5, 7, 8, 9, 10] (fun mm vs es => ∃ (s' : List Int × List Int) (j : Nat), vs = [.at (.bx 100 0 0), .at (.ow 101 0 1 s'.1.length), .at (.ow 102 0 1 s'.2.length), .at (.v (.int .i64 k)), .at (.ow 103 0 1 ((x.near a).length)), .at (.v (.int .i64 j))] /\ es = [.box 0 x.ats, .arr 0 1 (s'.1.map intRow), .arr 0 1 (s'.2.map intRow), .arr 0 1 ((x.near a).map intRow)] /\ mm + j = 4 /\ s' = ((x.near a).take j).foldl (relax a) s) 4 ?_ ?_
  ·simp -implicitDefEqProofs only [go_sem]
   exact ⟨s, 0, ⟨rfl, rfl, rfl⟩, ⟨rfl, rfl⟩, by omega, rfl⟩
  rintro r _ _ ⟨s', j, rfl, rfl, hr, hs'⟩
  simp -implicitDefEqProofs only [go_sem]
  have hv := Bfs.visitTo (by omega) hB hop j
  rw [<- hs'] at hv
  obtain ⟨hB', hda⟩ := hv
  have hql' := hB'.queue
  have hl' := hB'.len
  have hnl := DLand.near_len (x := x) (n := a)
  refine ⟨fun hj => ⟨by omega, by omega, fun b hb => ?_⟩, fun hj => ?_⟩
  ·have hbo := DLand.near_open hop.1.1 (List.mem_of_getElem? hb)
   have hbc := hbo.1.2
   have hstep := near_step (s := s) hb
   rw [<- hs'] at hstep
   refine ⟨by omega, by omega, fun d hd => ⟨fun hneg => ?_, fun hneg => ?_⟩⟩
   ·refine ⟨some [], by decide +kernel, ?_⟩
    simp -implicitDefEqProofs only [go_sem]
    have hk2 : s'.2[k]? = some a := by rw [hs']; exact fold_q ha
    have hk3 := (List.getElem?_eq_some_iff.1 hk2).1
    refine ⟨by omega, by omega, fun b2 hb2 => ⟨by omega, by omega, fun a2 ha2 => ?_⟩⟩
    have e1 : b2 = b := by rw [hb] at hb2; exact (Option.some.inj hb2).symm
    have e2 : a2 = a := by rw [hk2] at ha2; exact (Option.some.inj ha2).symm
    subst e1; subst e2
    have hao := hop.1.1.2
    refine ⟨by omega, by omega, fun v hv => ⟨by omega, by omega, by omega, by omega, fun b3 hb3 => ⟨roomN (by omega), r - 1, by omega, relax a2 s' b2, j + 1, ?_, ?_, by omega, hstep.symm⟩⟩⟩
    ·rw [relax_yes (by rw [dist_get hd]; exact hneg), wrap64 (by omega) (by omega)]; simp
    ·have e3 : b3 = b2 := by rw [hb] at hb3; exact (Option.some.inj hb3).symm
     subst e3
     have hv2 := hB.dist a2 (by omega)
     rw [<- hda, dist_get hv] at hv2
     rw [relax_yes (by rw [dist_get hd]; exact hneg), dist_get hv, wrap64 (by omega) (by omega), set_ints]
     simp [intRow]
   ·exact ⟨r - 1, by omega, s', j + 1, ⟨rfl, rfl, by rw [wrap64 (by omega) (by omega)]; rfl⟩, ⟨rfl, rfl⟩, by omega, by rw [hstep, relax_no (by rw [dist_get hd]; exact hneg)]⟩
  ·rw [visit_take hj] at hs'
   refine ⟨q - 1, by omega, s', k + 1, ⟨rfl, rfl, by rw [wrap64 (by omega) (by omega)]; rfl⟩, ⟨rfl, rfl⟩, by omega, ?_, ?_⟩
   ·exact hB'
   ·rw [hst, show 65 - k = (65 - (k + 1)) + 1 by omega, bfs_step ha, hs']
 ·have e := bfs_end (x := x) (n := 65 - k) (s := s) (k := k) (by omega)
  rw [hst, e]; exact ⟨rfl, rfl⟩
theorem impl_distances (x : DLand) (l : List Int) (hx : x.Ok) (hl : x.cells.length <= 1048576) (hll : l.length <= 1048576) : SC Tryz.prog 178 [.ag x.ats, .at (.im 1 (l.map intRow))] [] (.at (.fr 1 ((stepsZ x l).map intRow))) [] := by
 refine SC.of_W mixed Tryz.func178 (by kernel_rfl) rfl Tryz.results178 _ Tryz.ntmps178 (by simp) ?_
 simp -implicitDefEqProofs only [go_sem]
 have hb := hx.len
 refine T.loopW mixed [1, 2, 5, 15, 16] (fun mm vs es => ∃ (i : Nat), vs = [.at (.im 1 (l.map intRow)), .at (.bx 100 0 0), .at (.ow 101 0 1 i), .at (.v (.int .i64 x.cells.length)), .at (.v (.int .i64 i))] /\ es = [.box 0 x.ats, .arr 0 1 ((List.replicate i (-1)).map intRow)] /\ mm + i = x.cells.length) x.cells.length ?_ ?_
 ·simp -implicitDefEqProofs only [go_sem]; exact ⟨0, ⟨rfl, rfl⟩, rfl, by omega⟩
 rintro q _ _ ⟨i, rfl, rfl, hn⟩
 simp -implicitDefEqProofs only [go_sem]
 refine ⟨fun h => ?_, fun h => ?_⟩
 ·exact ⟨roomN (by omega), q - 1, by omega, i + 1, ⟨rfl, by rw [wrap64 (by omega) (by omega)]; rfl⟩, rep_S, by omega⟩
 have e : i = x.cells.length := by omega
 subst e
 refine T.loopW mixed [2, 5, 6, 23, 24, 25] (fun mm vs es => ∃ (s : List Int × List Int) (i : Nat), vs = [.at (.bx 100 0 0), .at (.ow 101 0 1 s.1.length), .at (.ow 102 0 1 s.2.length), .at (.im 1 (l.map intRow)), .at (.v (.int .i64 l.length)), .at (.v (.int .i64 i))] /\ es = [.box 0 x.ats, .arr 0 1 (s.1.map intRow), .arr 0 1 (s.2.map intRow)] /\ mm + i = l.length /\ s = (l.take i).foldl (seed x) (List.replicate x.cells.length (-1), []) /\ Bfs x s 0) l.length ?_ ?_
 ·simp -implicitDefEqProofs only [go_sem]
  exact ⟨(List.replicate x.cells.length (-1), []), 0, ⟨by simp, rfl, rfl⟩, ⟨rfl, rfl⟩, by omega, rfl, Bfs.start x⟩
 rintro q _ _ ⟨s, i, rfl, rfl, hn, hs, hB⟩
 simp -implicitDefEqProofs only [go_sem]
 have hql := hB.queue
 have hle := hB.len
 refine ⟨fun h => ⟨by omega, fun c hc => ?_⟩, fun h => ?_⟩
 ·refine callX [] (impl_IsOpen x c hl) (by simp -implicitDefEqProofs only [go_sem]) ?_
  simp -implicitDefEqProofs only [go_sem]
  have hstep : (l.take (i + 1)).foldl (seed x) (List.replicate x.cells.length (-1), []) = seed x s c := by
   rw [List.take_add_one, hc, hs]
   simp only [Option.toList_some, List.foldl_append, List.foldl_cons, List.foldl_nil]
  have stay : seed x s c = s -> ∃ n', n' < q /\ ∃ s1 i1, (s.1.length = s1.1.length /\ s.2.length = s1.2.length /\ IntKind.i64.wrap (i + 1) = (i1 : Nat)) /\ (s.1.map intRow = s1.1.map intRow /\ s.2.map intRow = s1.2.map intRow) /\
    n' + i1 = l.length /\ s1 = (l.take i1).foldl (seed x) (List.replicate x.cells.length (-1), []) /\ Bfs x s1 0 := fun e =>
   ⟨q - 1, by omega, s, i + 1, ⟨rfl, rfl, by rw [wrap64 (by omega) (by omega)]; rfl⟩, ⟨rfl, rfl⟩, by omega, by rw [hstep, e], hB⟩
  refine ⟨fun k1 => ?_, fun k1 => stay (if_neg (fun h => k1 h.1))⟩
  have hcc := k1.1.2
  refine ⟨by omega, by omega, fun d hd => ⟨fun k2 => ⟨by omega, by omega, roomN (by omega), q - 1, by omega, seed x s c, i + 1, ?_, ?_, by omega, hstep.symm, hB.seed⟩, fun k2 => stay (if_neg (fun h => k2 (by have := h.2; rwa [dist_get hd] at this)))⟩⟩
  ·rw [seed, if_pos ⟨k1, by rw [dist_get hd]; exact k2⟩, wrap64 (by omega) (by omega)]; simp
  ·rw [seed, if_pos ⟨k1, by rw [dist_get hd]; exact k2⟩, set_ints]; simp [intRow]
 have es : s = seeds x l := by rw [hs, List.take_of_length_le (by omega)]; rfl
 clear hs
 subst es
 refine T.loopW mixed [2, 5, 6] (fun mm vs es => ∃ (s : List Int × List Int) (k : Nat), vs = [.at (.bx 100 0 0), .at (.ow 101 0 1 s.1.length), .at (.ow 102 0 1 ((s.2.drop k).length))] /\ es = [.box 0 x.ats, .arr 0 1 (s.1.map intRow), .arr 0 1 ((s.2.drop k).map intRow)] /\ mm + k = x.cells.length /\ k <= s.2.length /\ Bfs x s k /\ stepsZ x l = bfs x (65 - k) s k) x.cells.length ?_ ?_
 ·simp -implicitDefEqProofs only [go_sem]
  exact ⟨seeds x l, 0, ⟨rfl, rfl⟩, ⟨rfl, rfl⟩, by omega, by omega, Bfs.seeds _, rfl⟩
 rintro q _ _ ⟨s, k, rfl, rfl, hn, hk, hB, hst⟩
 simp -implicitDefEqProofs only [go_sem]
 have hql := hB.queue
 refine ⟨fun h => ⟨h, by omega, fun a ha => ⟨by omega, ?_⟩⟩, fun h => ?_⟩
 ·have ha : s.2[k]? = some a := by rw [List.getElem?_drop] at ha; exact ha
  have e1 : List.take (s.2.length - k - Int.toNat 1) (List.drop (Int.toNat 1) ((s.2.drop k).map intRow)) = (s.2.drop (k + 1)).map intRow := by
   rw [<- List.map_drop, List.drop_drop, List.take_of_length_le (by simp; omega)]; rfl
  have e2 : s.2.length - k - Int.toNat 1 = (s.2.drop (k + 1)).length := by simp; omega
  rw [e1, e2]
  have hop := hB.op a (List.mem_of_getElem? ha)
  refine callX [] (impl_Near x a hop.1.1 hl) (by simp -implicitDefEqProofs only [go_sem]) ?_
  simp -implicitDefEqProofs only [go_sem]
  refine T.loopW mixed [2, 5, 6, 9, 57, 58, 59] (fun mm vs es => ∃ (s' : List Int × List Int) (j : Nat), vs = [.at (.bx 100 0 0), .at (.ow 101 0 1 s'.1.length), .at (.ow 102 0 1 ((s'.2.drop (k + 1)).length)), .at (.v (.int .i64 a)), .at (.ow 103 0 1 ((x.near a).length)), .at (.v (.int .i64 ((x.near a).length))), .at (.v (.int .i64 j))] /\ es = [.box 0 x.ats, .arr 0 1 (s'.1.map intRow), .arr 0 1 ((s'.2.drop (k + 1)).map intRow), .arr 0 1 ((x.near a).map intRow)] /\ mm + j = 4 /\ s' = ((x.near a).take j).foldl (relax a) s) 4 ?_ ?_
  ·simp -implicitDefEqProofs only [go_sem]
   exact ⟨s, 0, ⟨rfl, rfl, rfl⟩, ⟨rfl, rfl⟩, by omega, rfl⟩
  rintro r _ _ ⟨s', j, rfl, rfl, hr, hs'⟩
  simp -implicitDefEqProofs only [go_sem]
  have hv := Bfs.visitTo (by omega) hB hop j
  rw [<- hs'] at hv
  obtain ⟨hB', hda⟩ := hv
  have hql' := hB'.queue
  have hl' := hB'.len
  have hnl := DLand.near_len (x := x) (n := a)
  have hk2 : s'.2[k]? = some a := by rw [hs']; exact fold_q ha
  have hk3 := (List.getElem?_eq_some_iff.1 hk2).1
  have hao := hop.1.1.2
  refine ⟨fun hj => ⟨by omega, by omega, fun b hb => ?_⟩, fun hj => ?_⟩
  ·have hbo := DLand.near_open hop.1.1 (List.mem_of_getElem? hb)
   have hbc := hbo.1.2
   have hstep := near_step (s := s) hb
   rw [<- hs'] at hstep
   refine ⟨by omega, by omega, fun d hd => ⟨fun hneg => ?_, fun hneg => ?_⟩⟩
   ·refine ⟨by omega, by omega, fun v hv => ⟨by omega, by omega, roomN (by omega), r - 1, by omega, relax a s' b, j + 1, ?_, ?_, by omega, hstep.symm⟩⟩
    ·rw [relax_yes (by rw [dist_get hd]; exact hneg), wrap64 (by omega) (by omega)]; simp; omega
    ·have hv2 := hB.dist a (by omega)
     rw [<- hda, dist_get hv] at hv2
     rw [relax_yes (by rw [dist_get hd]; exact hneg), dist_get hv, wrap64 (by omega) (by omega), set_ints]
     refine ⟨rfl, ?_⟩
     simp only
     rw [List.drop_append_of_le_length (by omega)]; simp [intRow]
   ·exact ⟨r - 1, by omega, s', j + 1, ⟨rfl, rfl, by rw [wrap64 (by omega) (by omega)]; rfl⟩, ⟨rfl, rfl⟩, by omega, by rw [hstep, relax_no (by rw [dist_get hd]; exact hneg)]⟩
  ·rw [visit_take hj] at hs'
   refine ⟨q - 1, by omega, s', k + 1, ⟨rfl, by simp⟩, ⟨rfl, rfl⟩, by omega, by omega, ?_, ?_⟩
   ·exact hB'
   ·rw [hst, show 65 - k = (65 - (k + 1)) + 1 by omega, bfs_step ha, hs']
 ·have e := bfs_end (x := x) (n := 65 - k) (s := s) (k := k) (by omega)
  rw [hst, e]; exact ⟨rfl, rfl⟩
theorem spec_Days (x : DLand) (a b : Int) (hl : x.cells.length <= 1048576) : SC Tryz.prog 227 [.ag x.ats, .at (.v (.int .i64 a)), .at (.v (.int .i64 b))] [] (.at (.v (.int .i64 (daysZ x a b)))) [] := by
 refine SC.of_V mixed Tryz.func227 (by kernel_rfl) rfl Tryz.results227 _ Tryz.ntmps227 (by simp) ?_
 simp -implicitDefEqProofs only [go_sem]
 refine callX [] (spec_IsOpen x a hl) (by simp -implicitDefEqProofs only [go_sem]) ?_
 simp -implicitDefEqProofs only [go_sem]
 refine ⟨fun h1 => ?_, fun h1 => by rw [daysZ, if_neg (fun h => h1 h.1)]⟩
 refine callX [] (spec_IsOpen x b hl) (by simp -implicitDefEqProofs only [go_sem]) ?_
 simp -implicitDefEqProofs only [go_sem]
 refine ⟨fun h2 => by rw [daysZ, if_neg (fun h => h2 h.2)], fun h2 => ?_⟩
 refine callX [] (spec_l5From x a h1 hl) (by simp -implicitDefEqProofs only [go_sem]) ?_
 simp -implicitDefEqProofs only [go_sem]
 have hn := stepsZ_len x [a]
 have hb := h2.1.2
 refine ⟨by omega, by omega, fun v hv => ?_⟩
 rw [daysZ, if_pos ⟨h1, h2⟩, dist_get hv]
theorem impl_Days (x : DLand) (a b : Int) (hl : x.cells.length <= 1048576) : SC Tryz.prog 189 [.ag x.ats, .at (.v (.int .i64 a)), .at (.v (.int .i64 b))] [] (.at (.v (.int .i64 (daysZ x a b)))) [] := by
 refine SC.of_V mixed Tryz.func189 (by kernel_rfl) rfl Tryz.results189 _ Tryz.ntmps189 (by simp) ?_
 simp -implicitDefEqProofs only [go_sem]
 refine callX [] (impl_IsOpen x a hl) (by simp -implicitDefEqProofs only [go_sem]) ?_
 simp -implicitDefEqProofs only [go_sem]
 refine ⟨fun h1 => ?_, fun h1 => by rw [daysZ, if_neg (fun h => h1 h.1)]⟩
 refine callX [] (impl_IsOpen x b hl) (by simp -implicitDefEqProofs only [go_sem]) ?_
 simp -implicitDefEqProofs only [go_sem]
 refine ⟨fun h2 => by rw [daysZ, if_neg (fun h => h2 h.2)], fun h2 => ?_⟩
 refine callX [1304] (impl_distances x [a] h1.1.1 hl (by simp)) (by simp -implicitDefEqProofs only [go_sem]) ?_
 simp -implicitDefEqProofs only [go_sem]
 have hn := stepsZ_len x [a]
 have hb := h2.1.2
 refine ⟨by omega, by omega, fun v hv => ?_⟩
 rw [daysZ, if_pos ⟨h1, h2⟩, dist_get hv]
end Go.Abs
