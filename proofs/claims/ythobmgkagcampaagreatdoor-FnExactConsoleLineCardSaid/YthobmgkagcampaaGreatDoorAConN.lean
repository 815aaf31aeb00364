import Derived.Test.YthobmgkagcampaaGreatDoorAConL
namespace Go.Abs
open Go.RowKit Go.Proofs
set_option linter.all false
set_option maxRecDepth 100000
set_option maxHeartbeats 4000000
theorem con_longS {t : DTrek} {line : ByteArray} (h : 200 < line.size) : conZ t line = (t, kWhat) := by
 unfold conZ
 split
 ·rfl
 ·rw [if_pos h]
theorem con_emptyS {t : DTrek} {line : ByteArray} (h : wordsV line = []) : conZ t line = (t, kWhat) := by rw [conZ, h]
theorem con_atS {t : DTrek} {line w0 : ByteArray} {ws : List ByteArray} (h : wordsV line = w0 :: ws) (hs : ¬ 200 < line.size) : conZ t line = conW t w0 ws := by
 rw [conZ, h]; exact if_neg hs
theorem v0_i64S (l : List ByteArray) : I64 (v0 l) := by
 unfold v0 numsP
 cases h : (l.takeWhile okW) with
 | nil => unfold I64; simp
 | cons a l => have := valW_bnd (s := a); unfold I64; simp; omega
theorem ev_i64S (x : DLand) (w0 : ByteArray) (ws : List ByteArray) : I64 (eventZ x w0 ws).n := by
 have h0 : I64 (0 : Int) := by unfold I64; omega
 have h1 := v0_i64S ws
 have h2 := parseC_i64 x (ws.getD 0 kNone)
 unfold eventZ goE oneE noE
 repeat' split
 all_goals assumption
theorem spec_ConsoleLine (t : DTrek) (line : ByteArray) (h : Told t) (hl : line.size <= 1048576) : SC Tryz.prog 19 [.ag t.ats, .at (.v (.string line))] [] (.tp [.ag (conZ t line).1.frs, .at (.v (.string ((conZ t line).2)))]) [] := by
 have hf := h.sane.fit
 refine SC.of_TW Tryz.func19 (by kernel_rfl) rfl Tryz.results19 _ Tryz.ntmps19 (by simp) ?_
 refine T.seq (W.T mixed ?_)
 simp -implicitDefEqProofs only [go_sem]
 refine T.seq (W.T mixed ?_)
 simp -implicitDefEqProofs only [go_sem]
 refine callX [] ((spec_l40Words line hl).frozen) (by simp -implicitDefEqProofs only [go_sem]) ?_
 simp -implicitDefEqProofs only [go_sem]
 generalize hW : wordsV line = Wd
 refine T.seq (W.T mixed ?_)
 simp -implicitDefEqProofs only [go_sem]
 refine ⟨fun h0 => ⟨fun hs => ?_, fun hs => ?_⟩, fun h0 => ?_⟩
 ·rw [con_longS (t := t) (by omega)]
  refine callX [] (spec_l33Copy t hf) (by simp -implicitDefEqProofs only [go_sem]) ?_
  simp -implicitDefEqProofs only [go_sem]
 rotate_left
 ·rw [con_emptyS (t := t) (hW.trans (List.eq_nil_of_length_eq_zero (by omega)))]
  refine callX [] (spec_l33Copy t hf) (by simp -implicitDefEqProofs only [go_sem]) ?_
  simp -implicitDefEqProofs only [go_sem]
 obtain ⟨w0, ws, hWs⟩ : ∃ w0 ws, Wd = w0 :: ws := by
  cases Wd with
  | nil => exact absurd rfl h0
  | cons a l => exact ⟨a, l, rfl⟩
 rw [con_atS (t := t) (hW.trans hWs) (by omega)]
 have hWl : Wd.length = ws.length + 1 := by rw [hWs]; rfl
 have hwl : Wd.length <= line.size + 1 := by rw [<- hW]; exact Nat.le_trans (List.length_filter_le _ _) (cut_count 32 line)
 have hW0 : ∀ x, Wd[Int.toNat 0]? = some x -> x = w0 := fun x hx => by rw [hWs] at hx; exact (Option.some.inj hx).symm
 refine T.seq (W.T mixed ?_)
 simp -implicitDefEqProofs only [go_sem]
 refine ⟨by omega, ?_⟩
 rw [tail_1 hWs]
 refine callX [] ((spec_l40Nums ws (by omega)).frozen) (by simp -implicitDefEqProofs only [go_sem]) ?_
 simp -implicitDefEqProofs only [go_sem]
 refine ⟨fun hok => ⟨fun h2 => ⟨by omega, fun x hx => ?_⟩, fun h2 => ?_⟩, fun hok => ?_⟩
 ·rw [hW0 x hx]
  refine ⟨fun hn => ?_, fun hn => ?_⟩
  ·rw [conW, if_pos ⟨hok, by omega, tl_t hn⟩, doneN]
   refine ⟨some [1144], by decide +kernel, ?_⟩
   simp -implicitDefEqProofs only [go_sem]
   refine callXQ [] ((spec_ExampleLand).frozen) (by simp -implicitDefEqProofs only [go_sem]) ?_
   simp -implicitDefEqProofs only [go_sem]
   refine ⟨by omega, fun c hc => ⟨by omega, fun d hd => ?_⟩⟩
   have g0 : (numsP ws).getD 0 0 = c := getD_of (i := 0) hc
   have g1 : (numsP ws).getD 1 0 = d := getD_of (i := 1) hd
   rw [g0, g1]
   have cn := spec_NewTrek exZ 0 ⟨c, d⟩ crewC (by decide) (by decide)
   by_cases hp : newP c d
   ·rw [if_pos hp, show newC c d = newTrekZ exZ 0 ⟨c, d⟩ crewC from rfl]
    rw [show decide (trekP (newT exZ 0 ⟨c, d⟩ crewC)) = true from decide_eq_true hp] at cn
    refine callXQ [1880] (cn) (by simp -implicitDefEqProofs only [go_sem]) ?_
    simp -implicitDefEqProofs only [go_sem]
    refine callXHB [1896, 1897, 1898, 1899, 1900] [] (spec_l40Said_yes t (newTrekZ exZ 0 ⟨c, d⟩ crewC)) (by decide) (by simp -implicitDefEqProofs only [go_sem]) ?_
    simp -implicitDefEqProofs only [go_sem]
   ·rw [if_neg hp]
    rw [show decide (trekP (newT exZ 0 ⟨c, d⟩ crewC)) = false from decide_eq_false hp] at cn
    refine callXQ [1880] (cn) (by simp -implicitDefEqProofs only [go_sem]) ?_
    simp -implicitDefEqProofs only [go_sem]
    refine callXNB [1896, 1897, 1898, 1899, 1900] [] (spec_l40Said_no t (newTrekZ exZ 0 ⟨c, d⟩ crewC) hf) (by decide) (by simp -implicitDefEqProofs only [go_sem]) (by simp -implicitDefEqProofs only [go_sem]) ?_
    simp -implicitDefEqProofs only [go_sem]
  ·have hnn : ¬ (okN ws = true /\ (numsP ws).length = 2 /\ w0 = kNew) := fun k => tl_f hn k.2.2
   refine T.seq (W.T mixed ?_)
   simp -implicitDefEqProofs only [go_sem]
   refine callX [] (spec_l40Event t Wd ws w0 hWs hf.cells (by omega)) (by simp -implicitDefEqProofs only [go_sem]) ?_
   simp -implicitDefEqProofs only [go_sem]
   have hei := ev_i64S t.land w0 ws
   refine ⟨fun hk => ?_, fun hk => ?_⟩
   ·rw [con_evt hnn rfl hk, doneE]
    generalize eventZ t.land w0 ws = E at hei ⊢
    have ca := spec_ApplyEvent t E h.sane hei
    by_cases ha : applyP t E
    ·rw [if_pos ha]
     rw [decide_eq_true ha] at ca
     refine callX [] (ca) (by simp -implicitDefEqProofs only [go_sem]) ?_
     simp -implicitDefEqProofs only [go_sem]
     refine callXHB [2184, 2185, 2186, 2187, 2188] [] (spec_l40Said_yes t (applyZ t E)) (by decide) (by simp -implicitDefEqProofs only [go_sem]) ?_
     simp -implicitDefEqProofs only [go_sem]
     skip
    ·rw [if_neg ha]
     rw [decide_eq_false ha] at ca
     refine callX [] (ca) (by simp -implicitDefEqProofs only [go_sem]) ?_
     simp -implicitDefEqProofs only [go_sem]
     refine callXNB [2184, 2185, 2186, 2187, 2188] [] (spec_l40Said_no t (applyZ t E) hf) (by decide) (by simp -implicitDefEqProofs only [go_sem]) (by simp -implicitDefEqProofs only [go_sem]) ?_
     simp -implicitDefEqProofs only [go_sem]
     skip
   ·rw [conW, if_neg hnn, if_neg hk]
    refine T.seq (W.T mixed ?_)
    simp -implicitDefEqProofs only [go_sem]
    refine ⟨fun h1 => ?_, fun h1 => ?_⟩
    ·rw [if_pos (List.eq_nil_of_length_eq_zero (by omega))]
     refine ⟨some [1064], by decide +kernel, ?_⟩
     simp -implicitDefEqProofs only [go_sem]
     refine callXQ [] (spec_l33Copy t hf) (by simp -implicitDefEqProofs only [go_sem]) ?_
     simp -implicitDefEqProofs only [go_sem]
     refine ⟨by omega, fun y hy => ?_⟩
     rw [hW0 y hy]
     refine callXQ [] (spec_l40Ask t w0 h) (by simp -implicitDefEqProofs only [go_sem]) ?_
     simp -implicitDefEqProofs only [go_sem]
     skip
    ·rw [if_neg (by rintro rfl; exact h1 (by rw [hWl]; rfl))]
     refine W.T mixed ?_
     simp -implicitDefEqProofs only [go_sem]
     refine callX [] (spec_l33Copy t hf) (by simp -implicitDefEqProofs only [go_sem]) ?_
     simp -implicitDefEqProofs only [go_sem]
     skip
 ·have hnn : ¬ (okN ws = true /\ (numsP ws).length = 2 /\ w0 = kNew) := fun k => h2 (by have := k.2.1; omega)
  refine T.seq (W.T mixed ?_)
  simp -implicitDefEqProofs only [go_sem]
  refine callX [] (spec_l40Event t Wd ws w0 hWs hf.cells (by omega)) (by simp -implicitDefEqProofs only [go_sem]) ?_
  simp -implicitDefEqProofs only [go_sem]
  have hei := ev_i64S t.land w0 ws
  refine ⟨fun hk => ?_, fun hk => ?_⟩
  ·rw [con_evt hnn rfl hk, doneE]
   generalize eventZ t.land w0 ws = E at hei ⊢
   have ca := spec_ApplyEvent t E h.sane hei
   by_cases ha : applyP t E
   ·rw [if_pos ha]
    rw [decide_eq_true ha] at ca
    refine callX [] (ca) (by simp -implicitDefEqProofs only [go_sem]) ?_
    simp -implicitDefEqProofs only [go_sem]
    refine callXHB [2184, 2185, 2186, 2187, 2188] [] (spec_l40Said_yes t (applyZ t E)) (by decide) (by simp -implicitDefEqProofs only [go_sem]) ?_
    simp -implicitDefEqProofs only [go_sem]
    skip
   ·rw [if_neg ha]
    rw [decide_eq_false ha] at ca
    refine callX [] (ca) (by simp -implicitDefEqProofs only [go_sem]) ?_
    simp -implicitDefEqProofs only [go_sem]
    refine callXNB [2184, 2185, 2186, 2187, 2188] [] (spec_l40Said_no t (applyZ t E) hf) (by decide) (by simp -implicitDefEqProofs only [go_sem]) (by simp -implicitDefEqProofs only [go_sem]) ?_
    simp -implicitDefEqProofs only [go_sem]
    skip
  ·rw [conW, if_neg hnn, if_neg hk]
   refine T.seq (W.T mixed ?_)
   simp -implicitDefEqProofs only [go_sem]
   refine ⟨fun h1 => ?_, fun h1 => ?_⟩
   ·rw [if_pos (List.eq_nil_of_length_eq_zero (by omega))]
    refine ⟨some [1064], by decide +kernel, ?_⟩
    simp -implicitDefEqProofs only [go_sem]
    refine callXQ [] (spec_l33Copy t hf) (by simp -implicitDefEqProofs only [go_sem]) ?_
    simp -implicitDefEqProofs only [go_sem]
    refine ⟨by omega, fun y hy => ?_⟩
    rw [hW0 y hy]
    refine callXQ [] (spec_l40Ask t w0 h) (by simp -implicitDefEqProofs only [go_sem]) ?_
    simp -implicitDefEqProofs only [go_sem]
    skip
   ·rw [if_neg (by rintro rfl; exact h1 (by rw [hWl]; rfl))]
    refine W.T mixed ?_
    simp -implicitDefEqProofs only [go_sem]
    refine callX [] (spec_l33Copy t hf) (by simp -implicitDefEqProofs only [go_sem]) ?_
    simp -implicitDefEqProofs only [go_sem]
    skip
 ·have hnn : ¬ (okN ws = true /\ (numsP ws).length = 2 /\ w0 = kNew) := fun k => by rw [hok] at k; cases k.1
  refine T.seq (W.T mixed ?_)
  simp -implicitDefEqProofs only [go_sem]
  refine callX [] (spec_l40Event t Wd ws w0 hWs hf.cells (by omega)) (by simp -implicitDefEqProofs only [go_sem]) ?_
  simp -implicitDefEqProofs only [go_sem]
  have hei := ev_i64S t.land w0 ws
  refine ⟨fun hk => ?_, fun hk => ?_⟩
  ·rw [con_evt hnn rfl hk, doneE]
   generalize eventZ t.land w0 ws = E at hei ⊢
   have ca := spec_ApplyEvent t E h.sane hei
   by_cases ha : applyP t E
   ·rw [if_pos ha]
    rw [decide_eq_true ha] at ca
    refine callX [] (ca) (by simp -implicitDefEqProofs only [go_sem]) ?_
    simp -implicitDefEqProofs only [go_sem]
    refine callXHB [2184, 2185, 2186, 2187, 2188] [] (spec_l40Said_yes t (applyZ t E)) (by decide) (by simp -implicitDefEqProofs only [go_sem]) ?_
    simp -implicitDefEqProofs only [go_sem]
    skip
   ·rw [if_neg ha]
    rw [decide_eq_false ha] at ca
    refine callX [] (ca) (by simp -implicitDefEqProofs only [go_sem]) ?_
    simp -implicitDefEqProofs only [go_sem]
    refine callXNB [2184, 2185, 2186, 2187, 2188] [] (spec_l40Said_no t (applyZ t E) hf) (by decide) (by simp -implicitDefEqProofs only [go_sem]) (by simp -implicitDefEqProofs only [go_sem]) ?_
    simp -implicitDefEqProofs only [go_sem]
    skip
  ·rw [conW, if_neg hnn, if_neg hk]
   refine T.seq (W.T mixed ?_)
   simp -implicitDefEqProofs only [go_sem]
   refine ⟨fun h1 => ?_, fun h1 => ?_⟩
   ·rw [if_pos (List.eq_nil_of_length_eq_zero (by omega))]
    refine ⟨some [1064], by decide +kernel, ?_⟩
    simp -implicitDefEqProofs only [go_sem]
    refine callXQ [] (spec_l33Copy t hf) (by simp -implicitDefEqProofs only [go_sem]) ?_
    simp -implicitDefEqProofs only [go_sem]
    refine ⟨by omega, fun y hy => ?_⟩
    rw [hW0 y hy]
    refine callXQ [] (spec_l40Ask t w0 h) (by simp -implicitDefEqProofs only [go_sem]) ?_
    simp -implicitDefEqProofs only [go_sem]
    skip
   ·rw [if_neg (by rintro rfl; exact h1 (by rw [hWl]; rfl))]
    refine W.T mixed ?_
    simp -implicitDefEqProofs only [go_sem]
    refine callX [] (spec_l33Copy t hf) (by simp -implicitDefEqProofs only [go_sem]) ?_
    simp -implicitDefEqProofs only [go_sem]
    skip
end Go.Abs
