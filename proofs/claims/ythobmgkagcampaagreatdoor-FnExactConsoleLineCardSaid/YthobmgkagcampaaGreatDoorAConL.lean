import Derived.Test.YthobmgkagcampaaGreatDoorAConE
namespace Go.Abs
open Go.RowKit Go.Proofs
set_option linter.all false
set_option maxRecDepth 100000
set_option maxHeartbeats 4000000
theorem told_of {t : DTrek} (h : t.land.cells.length + t.depots.length + (t.party.crew.length + t.party.past.length) + t.journal.length <= 1048576) (hw : t.wf) : Told t := ⟨sane_of h hw, hw.nums, hw.2.2.2.1⟩
theorem v0_i64' (l : List ByteArray) : I64 (v0 l) := by
 unfold v0 numsP
 cases h : (l.takeWhile okW) with
 | nil => unfold I64; simp
 | cons a l => have := valW_bnd (s := a); unfold I64; simp; omega
theorem ev_i64' (x : DLand) (w0 : ByteArray) (ws : List ByteArray) : I64 (eventZ x w0 ws).n := by
 have h0 : I64 (0 : Int) := by unfold I64; omega
 have h1 := v0_i64' ws
 have h2 := parseC_i64 x (ws.getD 0 kNone)
 unfold eventZ goE oneE noE
 repeat' split
 all_goals assumption
theorem conZ_cases (t : DTrek) (line : ByteArray) : (conZ t line).1 = t \/ (∃ e, I64 e.n /\ applyP t e /\ (conZ t line).1 = applyZ t e) \/ ∃ a b, newP a b /\ (conZ t line).1 = newC a b := by
 unfold conZ
 split
 ·exact .inl rfl
 ·split
  ·exact .inl rfl
  ·unfold conW doneN doneE
   split
   ·split
    ·rename_i h; exact .inr (.inr ⟨_, _, h, rfl⟩)
    ·exact .inl rfl
   ·split
    ·split
     ·rename_i h; exact .inr (.inl ⟨_, ev_i64' _ _ _, h, rfl⟩)
     ·exact .inl rfl
    ·split <;> exact .inl rfl
theorem newC_sane {a b : Int} (h : newP a b) : (newC a b).Sane := by
 have e : newC a b = newT exZ 0 ⟨a, b⟩ crewC := if_pos h
 rw [e]
 exact ⟨newT_fit (by decide) (by decide), (by show I64 0; unfold I64; omega), (by show I64 0; unfold I64; omega)⟩
theorem conZ_sane {t : DTrek} (line : ByteArray) (h : t.Sane) : (conZ t line).1.Sane := by
 rcases conZ_cases t line with e | ⟨e, he, _, e2⟩ | ⟨a, b, h2, e2⟩
 ·rw [e]; exact h
 ·rw [e2]; exact applyZ_sane h he
 ·rw [e2]; exact newC_sane h2
end Go.Abs
namespace Go.Abs
open Go.RowKit Go.Proofs
set_option linter.all false
set_option maxRecDepth 100000
set_option maxHeartbeats 4000000
theorem tail_1 {W ws : List ByteArray} {w0 : ByteArray} (h : W = w0 :: ws) : List.take (W.length - Int.toNat 1) (List.drop (Int.toNat 1) (List.map strRow W)) = ws.map strRow := by
 subst h
 rw [show Int.toNat 1 = 1 from rfl, List.map_cons, List.drop_succ_cons, List.drop_zero, List.take_of_length_le (by rw [List.length_map, List.length_cons]; omega)]
theorem tail_2 {W ws : List ByteArray} {w0 : ByteArray} (h : W = w0 :: ws) : List.take (W.length - Int.toNat 2) (List.drop (Int.toNat 2) (List.map strRow W)) = (ws.drop 1).map strRow := by
 subst h
 rw [show Int.toNat 2 = 2 from rfl, List.map_cons, List.drop_succ_cons, List.map_drop, List.take_of_length_le (by rw [List.length_drop, List.length_map, List.length_cons]; omega)]
theorem spec_l40Event (t : DTrek) (W ws : List ByteArray) (w0 : ByteArray) (hW : W = w0 :: ws) (hx : t.land.cells.length <= 1048576) (hl : ws.length <= 1048576) : SC Tryz.prog 50 [.ag t.ats, .at (.im 1 (W.map strRow))] [] (.ag (eventZ t.land w0 ws).ats) [] := by
 have hWl : W.length = ws.length + 1 := by rw [hW]; rfl
 have hW0 : ∀ x, W[Int.toNat 0]? = some x -> x = w0 := fun x hx => by rw [hW] at hx; exact (Option.some.inj hx).symm
 have hW1 : ∀ x, W[Int.toNat 1]? = some x -> ws.getD 0 kNone = x := fun x hx => by
  rw [hW, show Int.toNat 1 = 0 + 1 from rfl, List.getElem?_cons_succ] at hx
  rw [List.getD_eq_getElem?_getD, hx]; rfl
 refine SC.of_W mixed Tryz.func50 (by kernel_rfl) rfl Tryz.results50 _ Tryz.ntmps50 (by simp) ?_
 simp -implicitDefEqProofs only [go_sem]
 refine ⟨by omega, ?_⟩
 rw [tail_1 hW]
 refine callX [] ((spec_l40Nums ws (by omega)).frozen) (by simp -implicitDefEqProofs only [go_sem]) ?_
 simp -implicitDefEqProofs only [go_sem]
 refine ⟨fun h3 => ⟨by omega, fun x hx0 => ?_⟩, fun h3 => ?_⟩
 ·rw [hW0 x hx0]
  refine ⟨fun hg => ?_, fun hg => ?_⟩
  ·have hg2 := tl_t hg
   have hlen : ws.length = 2 := by omega
   have hev : eventZ t.land w0 ws = goE t.land ws := by rw [eventZ, if_pos ⟨hlen, hg2⟩]
   refine ⟨by omega, ?_⟩
   rw [tail_2 hW]
   refine callX [] ((spec_l40Nums (ws.drop 1) (by rw [List.length_drop]; omega)).frozen) (by simp -implicitDefEqProofs only [go_sem]) ?_
   simp -implicitDefEqProofs only [go_sem]
   refine ⟨some [], by decide +kernel, ?_⟩
   simp -implicitDefEqProofs only [go_sem]
   refine ⟨by omega, fun y hy => ?_⟩
   have hy1 := hW1 y hy
   refine callXQ [] (spec_ParseCell t.land y hx) (by simp -implicitDefEqProofs only [go_sem]) ?_
   simp -implicitDefEqProofs only [go_sem]
   have hgo : goE t.land ws = if okN (ws.drop 1) = true /\ 0 <= parseC t.land y /\ in01 (v0 (ws.drop 1)) = true then ⟨2, parseC t.land y, decide (v0 (ws.drop 1) = 1)⟩ else noE := by rw [goE, hy1]
   have hdl : (ws.drop 1).length = 1 := by rw [List.length_drop]; omega
   rw [hev, hgo]
   generalize ws.drop 1 = vs at hdl ⊢
   generalize parseC t.land y = pc
   have hv : ∀ c, (numsP vs)[Int.toNat 0]? = some c -> v0 vs = c := fun c hc => getD_of (i := 0) hc
   have hno : ¬ (okN vs = true /\ 0 <= pc /\ in01 (v0 vs) = true) -> (0 = (if okN vs = true /\ 0 <= pc /\ in01 (v0 vs) = true then (⟨2, pc, decide (v0 vs = 1)⟩ : DEvent) else noE).kind /\ 0 = (if okN vs = true /\ 0 <= pc /\ in01 (v0 vs) = true then (⟨2, pc, decide (v0 vs = 1)⟩ : DEvent) else noE).n /\ false = (if okN vs = true /\ 0 <= pc /\ in01 (v0 vs) = true then (⟨2, pc, decide (v0 vs = 1)⟩ : DEvent) else noE).storm) := fun k => by
    rw [if_neg k]; exact ⟨rfl, rfl, rfl⟩
   refine ⟨fun hok => ⟨fun hp => ?_, fun hp => hno fun k => hp k.2.1⟩, fun hok => hno fun k => by rw [hok] at k; cases k.1⟩
   have hn1 : (numsP vs).length = 1 := by rw [numsP_len hok]; exact hdl
   refine ⟨by omega, fun c hc => ?_⟩
   have hvc := hv c hc
   refine callX [] (spec_l1In c 0 1) (by simp -implicitDefEqProofs only [go_sem]) ?_
   simp -implicitDefEqProofs only [go_sem]
   refine ⟨fun hi => ⟨by omega, fun c2 hc2 => ?_⟩, fun hi => hno fun k => hi (of_decide_eq_true (hvc ▸ k.2.2))⟩
   obtain rfl := Option.some.inj (hc.symm.trans hc2)
   rw [hvc, if_pos ⟨hok, hp, decide_eq_true hi⟩]
   exact ⟨rfl, rfl, rfl⟩
  ·have hev : eventZ t.land w0 ws = if okN ws = true /\ (numsP ws).length = 1 then oneE w0 (v0 ws) else noE := by rw [eventZ, if_neg fun k => tl_f hg k.2]
   refine ⟨fun hok => ⟨fun h1 => ?_, fun h1 => ⟨by omega, fun y1 hy1 => ?_⟩⟩, fun hok => ?_⟩
   ·rw [hev, if_neg fun k => h1 (by have := k.2; omega)]; exact ⟨rfl, rfl, rfl⟩
   rotate_left
   ·rw [hev, if_neg fun k => by rw [hok] at k; cases k.1]; exact ⟨rfl, rfl, rfl⟩
   have hn1 : (numsP ws).length = 1 := by omega
   have hev2 : eventZ t.land w0 ws = oneE w0 (v0 ws) := by rw [hev, if_pos ⟨hok, hn1⟩]
   have hv : ∀ c, (numsP ws)[Int.toNat 0]? = some c -> v0 ws = c := fun c hc => getD_of (i := 0) hc
   rw [hW0 y1 hy1]
   refine ⟨fun e1 => ⟨by omega, fun c hc => ?_⟩, fun e1 => ⟨by omega, fun y2 hy2 => ?_⟩⟩
   ·rw [hev2, hv c hc, oneE, if_pos (tl_t e1)]; exact ⟨rfl, rfl, rfl⟩
   rw [hW0 y2 hy2]
   refine ⟨fun e2 => ⟨by omega, fun c hc => ?_⟩, fun e2 => ⟨by omega, fun y3 hy3 => ?_⟩⟩
   ·rw [hev2, hv c hc, oneE, if_neg (tl_f e1), if_pos (tl_t e2)]; exact ⟨rfl, rfl, rfl⟩
   rw [hW0 y3 hy3]
   refine ⟨fun e3 => ⟨by omega, fun c hc => ?_⟩, fun e3 => ⟨by omega, fun y4 hy4 => ?_⟩⟩
   ·rw [hev2, hv c hc, oneE, if_neg (tl_f e1), if_neg (tl_f e2), if_pos (tl_t e3)]; exact ⟨rfl, rfl, rfl⟩
   rw [hW0 y4 hy4]
   have hno : ¬ (w0 = kWait /\ in01 (v0 ws) = true) -> ¬ (w0 = kHome /\ in01 (v0 ws) = true) -> eventZ t.land w0 ws = noE := fun k1 k2 => by rw [hev2, oneE, if_neg (tl_f e1), if_neg (tl_f e2), if_neg (tl_f e3), if_neg k1, if_neg k2]
   have hhome : ∀ c, v0 ws = c -> w0 = kHome -> 0 <= c /\ c <= 1 -> eventZ t.land w0 ws = ⟨4, 0, decide (c = 1)⟩ := fun c hc hh hi => by
    rw [hev2, hc, oneE, if_neg (tl_f e1), if_neg (tl_f e2), if_neg (tl_f e3), if_neg fun k => by rw [hh] at k; exact absurd k.1 (by decide), if_pos ⟨hh, decide_eq_true hi⟩]
   refine ⟨fun e4 => ⟨by omega, fun c hc => ?_⟩, fun e4 => ⟨by omega, fun y5 hy5 => ?_⟩⟩
   ·have hvc := hv c hc
    refine callX [] (spec_l1In c 0 1) (by simp -implicitDefEqProofs only [go_sem]) ?_
    simp -implicitDefEqProofs only [go_sem]
    refine ⟨fun hi => ⟨by omega, fun c2 hc2 => ?_⟩, fun hi => ⟨by omega, fun y5 hy5 => ?_⟩⟩
    ·obtain rfl := Option.some.inj (hc.symm.trans hc2)
     rw [hev2, hvc, oneE, if_neg (tl_f e1), if_neg (tl_f e2), if_neg (tl_f e3), if_pos ⟨tl_t e4, decide_eq_true hi⟩]; exact ⟨rfl, rfl, rfl⟩
    ·rw [hW0 y5 hy5]
     refine ⟨fun e5 => ?_, fun e5 => ?_⟩
     ·have := (tl_t e4).symm.trans (tl_t e5)
      exact absurd this (by decide)
     ·rw [hno (fun k => hi (of_decide_eq_true (hvc ▸ k.2))) (fun k => tl_f e5 k.1)]; exact ⟨rfl, rfl, rfl⟩
   ·rw [hW0 y5 hy5]
    refine ⟨fun e5 => ⟨by omega, fun c hc => ?_⟩, fun e5 => ?_⟩
    ·have hvc := hv c hc
     refine callX [] (spec_l1In c 0 1) (by simp -implicitDefEqProofs only [go_sem]) ?_
     simp -implicitDefEqProofs only [go_sem]
     refine ⟨fun hi => ⟨by omega, fun c2 hc2 => ?_⟩, fun hi => ?_⟩
     ·obtain rfl := Option.some.inj (hc.symm.trans hc2)
      rw [hhome c hvc (tl_t e5) hi]; exact ⟨rfl, rfl, rfl⟩
     ·rw [hno (fun k => tl_f e4 k.1) (fun k => hi (of_decide_eq_true (hvc ▸ k.2)))]; exact ⟨rfl, rfl, rfl⟩
    ·rw [hno (fun k => tl_f e4 k.1) (fun k => tl_f e5 k.1)]; exact ⟨rfl, rfl, rfl⟩
 ·have hev : eventZ t.land w0 ws = if okN ws = true /\ (numsP ws).length = 1 then oneE w0 (v0 ws) else noE := by rw [eventZ, if_neg fun k => h3 (by have := k.1; omega)]
  refine ⟨fun hok => ⟨fun h1 => ?_, fun h1 => ⟨by omega, fun y1 hy1 => ?_⟩⟩, fun hok => ?_⟩
  ·rw [hev, if_neg fun k => h1 (by have := k.2; omega)]; exact ⟨rfl, rfl, rfl⟩
  rotate_left
  ·rw [hev, if_neg fun k => by rw [hok] at k; cases k.1]; exact ⟨rfl, rfl, rfl⟩
  have hn1 : (numsP ws).length = 1 := by omega
  have hev2 : eventZ t.land w0 ws = oneE w0 (v0 ws) := by rw [hev, if_pos ⟨hok, hn1⟩]
  have hv : ∀ c, (numsP ws)[Int.toNat 0]? = some c -> v0 ws = c := fun c hc => getD_of (i := 0) hc
  rw [hW0 y1 hy1]
  refine ⟨fun e1 => ⟨by omega, fun c hc => ?_⟩, fun e1 => ⟨by omega, fun y2 hy2 => ?_⟩⟩
  ·rw [hev2, hv c hc, oneE, if_pos (tl_t e1)]; exact ⟨rfl, rfl, rfl⟩
  rw [hW0 y2 hy2]
  refine ⟨fun e2 => ⟨by omega, fun c hc => ?_⟩, fun e2 => ⟨by omega, fun y3 hy3 => ?_⟩⟩
  ·rw [hev2, hv c hc, oneE, if_neg (tl_f e1), if_pos (tl_t e2)]; exact ⟨rfl, rfl, rfl⟩
  rw [hW0 y3 hy3]
  refine ⟨fun e3 => ⟨by omega, fun c hc => ?_⟩, fun e3 => ⟨by omega, fun y4 hy4 => ?_⟩⟩
  ·rw [hev2, hv c hc, oneE, if_neg (tl_f e1), if_neg (tl_f e2), if_pos (tl_t e3)]; exact ⟨rfl, rfl, rfl⟩
  rw [hW0 y4 hy4]
  have hno : ¬ (w0 = kWait /\ in01 (v0 ws) = true) -> ¬ (w0 = kHome /\ in01 (v0 ws) = true) -> eventZ t.land w0 ws = noE := fun k1 k2 => by rw [hev2, oneE, if_neg (tl_f e1), if_neg (tl_f e2), if_neg (tl_f e3), if_neg k1, if_neg k2]
  have hhome : ∀ c, v0 ws = c -> w0 = kHome -> 0 <= c /\ c <= 1 -> eventZ t.land w0 ws = ⟨4, 0, decide (c = 1)⟩ := fun c hc hh hi => by
   rw [hev2, hc, oneE, if_neg (tl_f e1), if_neg (tl_f e2), if_neg (tl_f e3), if_neg fun k => by rw [hh] at k; exact absurd k.1 (by decide), if_pos ⟨hh, decide_eq_true hi⟩]
  refine ⟨fun e4 => ⟨by omega, fun c hc => ?_⟩, fun e4 => ⟨by omega, fun y5 hy5 => ?_⟩⟩
  ·have hvc := hv c hc
   refine callX [] (spec_l1In c 0 1) (by simp -implicitDefEqProofs only [go_sem]) ?_
   simp -implicitDefEqProofs only [go_sem]
   refine ⟨fun hi => ⟨by omega, fun c2 hc2 => ?_⟩, fun hi => ⟨by omega, fun y5 hy5 => ?_⟩⟩
   ·obtain rfl := Option.some.inj (hc.symm.trans hc2)
    rw [hev2, hvc, oneE, if_neg (tl_f e1), if_neg (tl_f e2), if_neg (tl_f e3), if_pos ⟨tl_t e4, decide_eq_true hi⟩]; exact ⟨rfl, rfl, rfl⟩
   ·rw [hW0 y5 hy5]
    refine ⟨fun e5 => ?_, fun e5 => ?_⟩
    ·have := (tl_t e4).symm.trans (tl_t e5)
     exact absurd this (by decide)
    ·rw [hno (fun k => hi (of_decide_eq_true (hvc ▸ k.2))) (fun k => tl_f e5 k.1)]; exact ⟨rfl, rfl, rfl⟩
  ·rw [hW0 y5 hy5]
   refine ⟨fun e5 => ⟨by omega, fun c hc => ?_⟩, fun e5 => ?_⟩
   ·have hvc := hv c hc
    refine callX [] (spec_l1In c 0 1) (by simp -implicitDefEqProofs only [go_sem]) ?_
    simp -implicitDefEqProofs only [go_sem]
    refine ⟨fun hi => ⟨by omega, fun c2 hc2 => ?_⟩, fun hi => ?_⟩
    ·obtain rfl := Option.some.inj (hc.symm.trans hc2)
     rw [hhome c hvc (tl_t e5) hi]; exact ⟨rfl, rfl, rfl⟩
    ·rw [hno (fun k => tl_f e4 k.1) (fun k => hi (of_decide_eq_true (hvc ▸ k.2)))]; exact ⟨rfl, rfl, rfl⟩
   ·rw [hno (fun k => tl_f e4 k.1) (fun k => tl_f e5 k.1)]; exact ⟨rfl, rfl, rfl⟩
end Go.Abs
