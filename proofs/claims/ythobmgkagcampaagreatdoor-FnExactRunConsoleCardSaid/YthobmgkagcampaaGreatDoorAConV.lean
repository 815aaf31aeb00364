import Derived.Test.YthobmgkagcampaaGreatDoorAComesZ
import Derived.Test.YthobmgkagcampaaGreatDoorAConL
import Derived.Test.YthobmgkagcampaaGreatDoorAConM
namespace Go.Abs
open Go.RowKit Go.Proofs
set_option linter.all false
set_option maxRecDepth 100000
section
variable {t : DTrek} {e : DEvent}
theorem dayR_keep {p : DParty} {l : List DDepot} {Q : Prop} : (trekP t -> trekP (dayR t p l Q)) /\ (¬ trekP t -> dayR t p l Q = t) := by
 unfold dayR
 split
 ·rename_i h; exact ⟨fun _ => h.2.2, fun k => absurd h.2.1 k⟩
 ·exact ⟨fun h => h, fun _ => rfl⟩
theorem putR_keep {p : DParty} {l : List DDepot} {Q : Prop} : (trekP t -> trekP (putR t p l Q)) /\ (¬ trekP t -> putR t p l Q = t) := by
 unfold putR
 split
 ·rename_i h; exact ⟨fun _ => h.2.2, fun k => absurd h.2.1 k⟩
 ·exact ⟨fun h => h, fun _ => rfl⟩
theorem giveZ_keep {n : Int} : (trekP t -> trekP (giveZ t n)) /\ (¬ trekP t -> giveZ t n = t) := by
 unfold giveZ
 split
 ·rename_i h; exact ⟨fun _ => h.2.2.2, fun k => absurd h.2.2.1 k⟩
 ·exact ⟨fun h => h, fun _ => rfl⟩
theorem apply_keep : (trekP t -> trekP (applyZ t e)) /\ (¬ trekP t -> applyZ t e = t) := by
 by_cases h1 : e.kind = 1
 ·rw [(apply_1 h1).1]; exact giveZ_keep
 by_cases h2 : e.kind = 2
 ·rw [(apply_2 h2).1]; exact dayR_keep
 by_cases h3 : e.kind = 3
 ·rw [(apply_3 h3).1]; exact dayR_keep
 by_cases h4 : e.kind = 4
 ·rw [(apply_4 h4).1]; exact dayR_keep
 by_cases h5 : e.kind = 5
 ·rw [(apply_5 h5).1]; exact putR_keep
 by_cases h6 : e.kind = 6
 ·rw [(apply_6 h6).1]; exact putR_keep
 ·rw [(apply_0 h1 h2 h3 h4 h5 h6).1]; exact ⟨fun h => h, fun _ => rfl⟩
end
end Go.Abs
namespace Go.Abs
open Go.RowKit Go.Proofs
set_option linter.all false
set_option maxRecDepth 100000
set_option maxHeartbeats 4000000
theorem DepotsP.wfs' {x : DLand} {l : List DDepot} (h : DepotsP x l) : ∀ d ∈ l, d.wf := by
 intro d hd
 obtain ⟨i, hi⟩ := List.getElem?_of_mem hd
 have h1 := h.1 i d hi
 have h2 := h1.1.1
 have h3 := h2.1.len
 refine ⟨?_, ?_⟩
 ·have := h2.2; unfold I64; omega
 ·have := h1.2.1; unfold I64; omega
theorem told_trek {t : DTrek} (hs : t.Sane) (h : trekP t) : Told t := by
 have hl := h.2.2.2.2.2
 have hd := h.2.2.2.2.1
 refine ⟨hs, ⟨?_, ?_, ?_, ?_⟩, h.1.1.1.2.1.wfs'⟩
 ·unfold I64; omega
 ·have := hl.1; unfold I64; omega
 ·have := hl.2.1; unfold I64; omega
 ·have := hl.2.2.1; unfold I64; omega
theorem told_no : Told noT := by
 refine ⟨⟨⟨by decide, by decide, by decide, by decide, by decide, fun p hp => by cases hp⟩, (by show I64 0; unfold I64; omega), (by show I64 0; unfold I64; omega)⟩, ⟨?_, ?_, ?_, ?_⟩, fun d hd => by cases hd⟩ <;> (show I64 0; unfold I64; omega)
theorem told_con {t : DTrek} (line : ByteArray) (h : Told t) : Told (conZ t line).1 := by
 rcases conZ_cases t line with e | ⟨e, he, _, e2⟩ | ⟨a, b, h2, e2⟩
 ·rw [e]; exact h
 ·rw [e2]
  have hk := apply_keep (t := t) (e := e)
  by_cases ht : trekP t
  ·exact told_trek (applyZ_sane h.sane he) (hk.1 ht)
  ·rw [hk.2 ht]; exact h
 ·rw [e2]
  have e3 : newC a b = newT exZ 0 ⟨a, b⟩ crewC := if_pos h2
  exact told_trek (newC_sane h2) (by rw [e3]; exact h2)
noncomputable def conRun : DTrek -> List ByteArray -> List ByteArray
 | _, [] => []
 | t, s :: l => (conZ t s).2 :: conRun (conZ t s).1 l
theorem conRun_len : ∀ (l : List ByteArray) (t : DTrek), (conRun t l).length = l.length := by
 intro l
 induction l with
 | nil => intro t; rfl
 | cons s l ih => intro t; rw [conRun, List.length_cons, ih, List.length_cons]
noncomputable def conO (text : ByteArray) : List ByteArray := if 60 < (linesV text).length then [] else conRun noT (linesV text)
noncomputable def conB (text : ByteArray) : Bool := decide (¬ 60 < (linesV text).length)
theorem conO_len (text : ByteArray) : (conO text).length <= 60 := by
 unfold conO
 split
 ·exact Nat.zero_le _
 ·rw [conRun_len]; omega
end Go.Abs
namespace Go.Abs
open Go.RowKit Go.Proofs
set_option linter.all false
set_option maxRecDepth 100000
set_option maxHeartbeats 4000000
def nilT : List A := [.v (.int .i64 0), .v (.int .i64 0), .nil, .v (.int .i64 0), .v (.int .i64 0), .v (.int .i64 0), .nil, .v (.int .i64 0), .v (.int .i64 0), .nil, .nil, .nil, .v (.int .i64 0), .v (.int .i64 0), .v (.int .i64 0)]
def imT : List A := [.v (.int .i64 0), .v (.int .i64 0), .im 1 [], .v (.int .i64 0), .v (.int .i64 0), .v (.int .i64 0), .im 2 [], .v (.int .i64 0), .v (.int .i64 0), .im 4 [], .im 1 [], .im 4 [], .v (.int .i64 0), .v (.int .i64 0), .v (.int .i64 0)]
attribute [go_sem] imT
theorem last_at {C : List ByteArray} {x : ByteArray} {k : Nat} (hk : k + 1 = C.length) (h : C[k]? = some x) : C.getLast? = some x := by
 rw [List.getLast?_eq_getElem?, show C.length - 1 = k by omega]; exact h
theorem impl_RunConsole (text : ByteArray) (hl : text.size <= 1048576) : SC Tryz.prog 13 [.at (.v (.string text))] [] (.tp [.at (.fr 1 ((conO text).map strRow)), .at (.v (.bool (conB text)))]) [] := by
 have hc := cut_count 10 text
 have hne : cutF 10 text.data.toList [] ≠ [] := cut_ne
 have hmem : ∀ s ∈ linesV text, s.size <= text.size := fun s hs => linesV_mem hs
 refine SC.of_TW Tryz.func13 (by kernel_rfl) rfl Tryz.results13 _ Tryz.ntmps13 (by simp) ?_
 refine T.seq (W.T mixed ?_)
 simp -implicitDefEqProofs only [go_sem]
 refine T.seq (W.T mixed ?_)
 simp -implicitDefEqProofs only [go_sem]
 refine callX [] (std_Split10 text hl) (by simp -implicitDefEqProofs only [go_sem]) ?_
 simp -implicitDefEqProofs only [go_sem]
 have hL : linesV text = dropE (cutF 10 text.data.toList []) := rfl
 generalize cutF 10 text.data.toList [] = C at hc hne hL ⊢
 have hpos : 1 <= C.length := by
  cases C with
  | nil => exact absurd rfl hne
  | cons _ _ => simp
 refine T.seq (W.T mixed ?_)
 simp -implicitDefEqProofs only [go_sem]
 rw [wrap64 (x := (C.length : Int) - 1) (by omega) (by omega)]
 refine ⟨⟨by omega, by omega⟩, fun x hx => ?_⟩
 have hlast := last_at (k := ((C.length : Int) - 1).toNat) (by omega) hx
 have hlen := dropE_len (l := C)
 refine ⟨fun e => ?_, fun e => ?_⟩
 ·have hd : linesV text = C.dropLast := by
   rw [hL, dropE, hlast]
   have : ¬ nonE x = true := by rw [nonE, e]; decide
   exact if_neg this
  have hrows : ∀ k : Nat, k = C.length - 1 -> List.take k (List.drop (Int.toNat 0) (List.map strRow C)) = (linesV text).map strRow := fun k hk => by
   rw [show Int.toNat 0 = 0 from rfl, List.drop_zero, <- List.map_take, hd, List.dropLast_eq_take, hk]
  refine ⟨⟨by omega, by omega⟩, ?_⟩
  rw [hrows _ (by omega)]
  refine T.seq (W.T mixed ?_)
  simp -implicitDefEqProofs only [go_sem]
  refine ⟨fun h60 => ?_, fun h60 => ?_⟩
  ·have e1 : conO text = [] := if_pos (by omega)
   have e2 : conB text = false := decide_eq_false (fun k => k (by omega))
   rw [e1, e2]
   exact ⟨⟨rfl, rfl⟩, rfl⟩
  have e1 : conO text = conRun noT (linesV text) := if_neg (by omega)
  have e2 : conB text = true := decide_eq_true (by omega)
  rw [e1, e2]
  generalize linesV text = L at hmem h60 ⊢
  refine W.T mixed ?_
  simp -implicitDefEqProofs only [go_sem]
  refine T.loopW mixed [5, 6, 30, 31, 32] (fun mm vs es => ∃ (i : Nat) (t : DTrek) (cells : List A) (out : List ByteArray), vs = [.at (.bx 100 0 0), .at (.ow 101 0 1 out.length), .at (.im 1 (L.map strRow)), .at (.v (.int .i64 L.length)), .at (.v (.int .i64 (i : Nat)))] /\ es = [.box 0 cells, .arr 0 1 (out.map strRow)] /\ mm + i = L.length /\ out.length = i /\ Told t /\ (cells = t.ats \/ (t = noT /\ cells = nilT)) /\ conRun noT L = out ++ conRun t (L.drop i)) L.length ?_ ?_
  ·simp -implicitDefEqProofs only [go_sem]
   exact ⟨0, noT, nilT, [], ⟨rfl, rfl⟩, ⟨rfl, rfl⟩, by omega, rfl, told_no, .inr ⟨rfl, rfl⟩, by simp⟩
  rintro q _ _ ⟨i, t, cells, out, rfl, rfl, hq, ho, ht, hcell, hrun⟩
  simp -implicitDefEqProofs only [go_sem]
  refine ⟨fun hlt => ⟨by omega, fun s hs => ?_⟩, fun hlt => ?_⟩
  ·have hsz := hmem s (List.mem_of_getElem? hs)
   rw [getE hs, conRun] at hrun
   rcases hcell with rfl | ⟨rfl, rfl⟩
   ·simp -implicitDefEqProofs only [go_sem]
    refine callX [] ((impl_ConsoleLine t s ht (by omega)).frozen) (by simp -implicitDefEqProofs only [go_sem]) ?_
    simp -implicitDefEqProofs only [go_sem]
    exact ⟨by unfold Room; omega, q - 1, by omega, i + 1, (conZ t s).1, (conZ t s).1.ats, out ++ [(conZ t s).2], ⟨by simp, wrap64 (by omega) (by omega)⟩, ⟨rfl, by simp [strRow]⟩, by omega, by simp; omega, told_con s ht, .inl rfl, by rw [hrun]; simp⟩
   ·unfold nilT
    simp -implicitDefEqProofs only [go_sem]
    have cn : SC Tryz.prog 8 [.ag imT, .at (.v (.string s))] [] (.tp [.ag (conZ noT s).1.frs, .at (.v (.string ((conZ noT s).2)))]) [] := impl_ConsoleLine noT s told_no (by omega)
    refine callX [] (cn.frozen) (by simp -implicitDefEqProofs only [go_sem]) ?_
    simp -implicitDefEqProofs only [go_sem]
    exact ⟨by unfold Room; omega, q - 1, by omega, i + 1, (conZ noT s).1, (conZ noT s).1.ats, out ++ [(conZ noT s).2], ⟨by simp, wrap64 (by omega) (by omega)⟩, ⟨rfl, by simp [strRow]⟩, by omega, by simp; omega, told_con s ht, .inl rfl, by rw [hrun]; simp⟩
  ·rw [List.drop_eq_nil_of_le (by omega), conRun, List.append_nil] at hrun
   rw [hrun]
   exact ⟨rfl, rfl⟩
 ·have hd : linesV text = C := by
   rw [hL, dropE, hlast]
   have : nonE x = true := by rw [nonE, e]; rfl
   exact if_pos this
  rw [<- hd]
  refine T.seq (W.T mixed ?_)
  simp -implicitDefEqProofs only [go_sem]
  refine ⟨fun h60 => ?_, fun h60 => ?_⟩
  ·have e1 : conO text = [] := if_pos (by omega)
   have e2 : conB text = false := decide_eq_false (fun k => k (by omega))
   rw [e1, e2]
   exact ⟨⟨rfl, rfl⟩, rfl⟩
  have e1 : conO text = conRun noT (linesV text) := if_neg (by omega)
  have e2 : conB text = true := decide_eq_true (by omega)
  rw [e1, e2]
  generalize linesV text = L at hmem h60 ⊢
  refine W.T mixed ?_
  simp -implicitDefEqProofs only [go_sem]
  refine T.loopW mixed [5, 6, 30, 31, 32] (fun mm vs es => ∃ (i : Nat) (t : DTrek) (cells : List A) (out : List ByteArray), vs = [.at (.bx 100 0 0), .at (.ow 101 0 1 out.length), .at (.im 1 (L.map strRow)), .at (.v (.int .i64 L.length)), .at (.v (.int .i64 (i : Nat)))] /\ es = [.box 0 cells, .arr 0 1 (out.map strRow)] /\ mm + i = L.length /\ out.length = i /\ Told t /\ (cells = t.ats \/ (t = noT /\ cells = nilT)) /\ conRun noT L = out ++ conRun t (L.drop i)) L.length ?_ ?_
  ·simp -implicitDefEqProofs only [go_sem]
   exact ⟨0, noT, nilT, [], ⟨rfl, rfl⟩, ⟨rfl, rfl⟩, by omega, rfl, told_no, .inr ⟨rfl, rfl⟩, by simp⟩
  rintro q _ _ ⟨i, t, cells, out, rfl, rfl, hq, ho, ht, hcell, hrun⟩
  simp -implicitDefEqProofs only [go_sem]
  refine ⟨fun hlt => ⟨by omega, fun s hs => ?_⟩, fun hlt => ?_⟩
  ·have hsz := hmem s (List.mem_of_getElem? hs)
   rw [getE hs, conRun] at hrun
   rcases hcell with rfl | ⟨rfl, rfl⟩
   ·simp -implicitDefEqProofs only [go_sem]
    refine callX [] ((impl_ConsoleLine t s ht (by omega)).frozen) (by simp -implicitDefEqProofs only [go_sem]) ?_
    simp -implicitDefEqProofs only [go_sem]
    exact ⟨by unfold Room; omega, q - 1, by omega, i + 1, (conZ t s).1, (conZ t s).1.ats, out ++ [(conZ t s).2], ⟨by simp, wrap64 (by omega) (by omega)⟩, ⟨rfl, by simp [strRow]⟩, by omega, by simp; omega, told_con s ht, .inl rfl, by rw [hrun]; simp⟩
   ·unfold nilT
    simp -implicitDefEqProofs only [go_sem]
    have cn : SC Tryz.prog 8 [.ag imT, .at (.v (.string s))] [] (.tp [.ag (conZ noT s).1.frs, .at (.v (.string ((conZ noT s).2)))]) [] := impl_ConsoleLine noT s told_no (by omega)
    refine callX [] (cn.frozen) (by simp -implicitDefEqProofs only [go_sem]) ?_
    simp -implicitDefEqProofs only [go_sem]
    exact ⟨by unfold Room; omega, q - 1, by omega, i + 1, (conZ noT s).1, (conZ noT s).1.ats, out ++ [(conZ noT s).2], ⟨by simp, wrap64 (by omega) (by omega)⟩, ⟨rfl, by simp [strRow]⟩, by omega, by simp; omega, told_con s ht, .inl rfl, by rw [hrun]; simp⟩
  ·rw [List.drop_eq_nil_of_le (by omega), conRun, List.append_nil] at hrun
   rw [hrun]
   exact ⟨rfl, rfl⟩
end Go.Abs
