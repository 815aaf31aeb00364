import Derived.Test.YthobmgkagcampaaGreatDoorAConV
import Derived.Test.YthobmgkagcampaaGreatDoorAConN
namespace Go.Abs
open Go.RowKit Go.Proofs
set_option linter.all false
set_option maxRecDepth 100000
set_option maxHeartbeats 4000000
def nilS : List A := [.v (.int .i64 0), .v (.int .i64 0), .nil, .v (.int .i64 0), .v (.int .i64 0), .v (.int .i64 0), .nil, .v (.int .i64 0), .v (.int .i64 0), .nil, .nil, .nil, .v (.int .i64 0), .v (.int .i64 0), .v (.int .i64 0)]
def imS : List A := [.v (.int .i64 0), .v (.int .i64 0), .im 1 [], .v (.int .i64 0), .v (.int .i64 0), .v (.int .i64 0), .im 2 [], .v (.int .i64 0), .v (.int .i64 0), .im 4 [], .im 1 [], .im 4 [], .v (.int .i64 0), .v (.int .i64 0), .v (.int .i64 0)]
attribute [go_sem] imS
theorem ext_list {s : ByteArray} {a b : Nat} : (s.extract a b).data.toList = (s.data.toList.take b).drop a := by simp [ByteArray.data_extract, List.extract_eq_take_drop, List.drop_take]
theorem ext_snoc {s : ByteArray} {a i : Nat} {w : List UInt8} (hw : s.extract a i = bs w) (ha : a <= i) (h : i < s.size) : s.extract a (i + 1) = bs (w ++ [s[i]?.getD 0]) := by
 apply ByteArray.ext
 apply Array.ext'
 have h1 : w = (s.data.toList.take i).drop a := by rw [<- ext_list, hw]; rfl
 have h2 : i < s.data.toList.length := by rw [Array.length_toList]; exact h
 rw [ext_list, bs_toList, h1, List.take_add_one, byte_at h, Option.toList_some, List.drop_append_of_le_length (by rw [List.length_take]; omega)]
theorem ext_nil {s : ByteArray} {a : Nat} : s.extract a a = bs [] := by
 apply ByteArray.ext
 apply Array.ext'
 rw [ext_list, bs_toList, List.drop_eq_nil_of_le (by rw [List.length_take]; omega)]
theorem spec_RunConsole (text : ByteArray) (hl : text.size <= 1048576) : SC Tryz.prog 14 [.at (.v (.string text))] [] (.tp [.at (.fr 1 ((conO text).map strRow)), .at (.v (.bool (conB text)))]) [] := by
 have hmem : ∀ s ∈ linesV text, s.size <= text.size := fun s hs => linesV_mem hs
 have hcount : (linesV text).length <= text.size + 1 := Nat.le_trans dropE_len (cut_count 10 text)
 refine SC.of_W mixed Tryz.func14 (by kernel_rfl) rfl Tryz.results14 _ Tryz.ntmps14 (by simp) ?_
 simp -implicitDefEqProofs only [go_sem]
 refine T.loopW mixed [0, 4, 5, 6] (fun mm vs es => ∃ (i : Nat) (a : Nat) (out : List ByteArray) (w : List UInt8), vs = [.at (.v (.string text)), .at (.ow 100 0 1 out.length), .at (.v (.int .i64 (a : Nat))), .at (.v (.int .i64 (i : Nat)))] /\ es = [.arr 0 1 (out.map strRow)] /\ mm + i = text.size + 1 /\ out.length <= i /\ ((i <= text.size /\ a <= i /\ text.extract a i = bs w /\ w.length + a = i /\ linesV text = out ++ dropE (cutF 10 (text.data.toList.drop i) w)) \/ (i = text.size + 1 /\ linesV text = out))) (text.size + 1) ?_ ?_
 ·simp -implicitDefEqProofs only [go_sem]
  exact ⟨0, 0, [], [], ⟨rfl, ⟨rfl, rfl⟩⟩, rfl, by omega, by simp, .inl ⟨by omega, by omega, ext_nil, rfl, rfl⟩⟩
 rintro q _ _ ⟨i, a, out, w, rfl, rfl, hq, ho, hd⟩
 simp -implicitDefEqProofs only [go_sem]
 refine ⟨fun hle => ?_, fun hgt => ?_⟩
 ·rcases hd with ⟨hi, ha, hw, hwl, hd⟩ | ⟨hi, _⟩
  rotate_left
  ·omega
  refine ⟨fun his => ⟨fun has => ?_, fun has => ⟨fun c => absurd his c, fun _ => ?_⟩⟩, fun his => ⟨fun _ => ⟨by omega, fun hb => ?_, fun hb => ?_⟩, fun c => absurd c his⟩⟩
  ·have hw0 : w = [] := List.eq_nil_of_length_eq_zero (by omega)
   rw [hw0, List.drop_eq_nil_of_le (by rw [Array.length_toList]; show text.size <= i; omega), cutF, dropE_one_e, List.append_nil] at hd
   subst hd
   refine ⟨fun h60 => ?_, fun h60 => ?_⟩
   ·have e1 : conO text = [] := if_pos (by omega)
    have e2 : conB text = false := decide_eq_false (fun k => k (by omega))
    rw [e1, e2]
    exact ⟨⟨rfl, rfl⟩, rfl⟩
   have e1 : conO text = conRun noT (linesV text) := if_neg (by omega)
   have e2 : conB text = true := decide_eq_true (by omega)
   rw [e1, e2]
   generalize linesV text = L at hmem h60 ⊢
   refine T.loopW mixed [4, 7, 8, 9] (fun mm vs es => ∃ (j : Nat) (t : DTrek) (cells : List A) (o : List ByteArray), vs = [.at (.ow 100 0 1 L.length), .at (.bx 101 0 0), .at (.ow 102 0 1 o.length), .at (.v (.int .i64 (j : Nat)))] /\ es = [.arr 0 1 (L.map strRow), .box 0 cells, .arr 0 1 (o.map strRow)] /\ mm + j = L.length /\ o.length = j /\ Told t /\ (cells = t.ats \/ (t = noT /\ cells = nilS)) /\ conRun noT L = o ++ conRun t (L.drop j)) L.length ?_ ?_
   ·simp -implicitDefEqProofs only [go_sem]
    exact ⟨0, noT, nilS, [], ⟨rfl, rfl⟩, ⟨rfl, rfl⟩, by omega, rfl, told_no, .inr ⟨rfl, rfl⟩, by simp⟩
   rintro q2 _ _ ⟨j, t, cells, o, rfl, rfl, hq2, ho2, ht, hcell, hrun⟩
   simp -implicitDefEqProofs only [go_sem]
   refine ⟨fun hlt => ?_, fun hlt => ?_⟩
   ·rcases hcell with rfl | ⟨rfl, rfl⟩
    ·refine ⟨some [1160], by decide +kernel, ?_⟩
     simp -implicitDefEqProofs only [go_sem]
     refine ⟨by omega, by omega, fun s hs => ?_⟩
     have hsz := hmem s (List.mem_of_getElem? hs)
     rw [getE hs, conRun] at hrun
     refine callXQ [] ((spec_ConsoleLine t s ht (by omega)).frozen) (by simp -implicitDefEqProofs only [go_sem]) ?_
     simp -implicitDefEqProofs only [go_sem]
     exact ⟨by unfold Room; omega, q2 - 1, by omega, j + 1, (conZ t s).1, (conZ t s).1.ats, o ++ [(conZ t s).2], ⟨by simp, wrap64 (by omega) (by omega)⟩, ⟨rfl, by simp [strRow]⟩, by omega, by simp; omega, told_con s ht, .inl rfl, by rw [hrun]; simp⟩
    ·unfold nilS
     refine ⟨some [1160], by decide +kernel, ?_⟩
     simp -implicitDefEqProofs only [go_sem]
     refine ⟨by omega, by omega, fun s hs => ?_⟩
     have hsz := hmem s (List.mem_of_getElem? hs)
     rw [getE hs, conRun] at hrun
     have cn : SC Tryz.prog 19 [.ag imS, .at (.v (.string s))] [] (.tp [.ag (conZ noT s).1.frs, .at (.v (.string ((conZ noT s).2)))]) [] := spec_ConsoleLine noT s told_no (by omega)
     refine callXQ [] (cn.frozen) (by simp -implicitDefEqProofs only [go_sem]) ?_
     simp -implicitDefEqProofs only [go_sem]
     exact ⟨by unfold Room; omega, q2 - 1, by omega, j + 1, (conZ noT s).1, (conZ noT s).1.ats, o ++ [(conZ noT s).2], ⟨by simp, wrap64 (by omega) (by omega)⟩, ⟨rfl, by simp [strRow]⟩, by omega, by simp; omega, told_con s ht, .inl rfl, by rw [hrun]; simp⟩
   ·rw [List.drop_eq_nil_of_le (by omega), conRun, List.append_nil] at hrun
    rw [hrun]
    exact ⟨rfl, rfl⟩
  ·have hw0 : w ≠ [] := by rintro rfl; exact has (by simp at hwl; omega)
   rw [List.drop_eq_nil_of_le (by rw [Array.length_toList]; show text.size <= i; omega), cutF, dropE_one hw0] at hd
   exact ⟨⟨by omega, by omega, by omega⟩, by unfold Room; omega, q - 1, by omega, i + 1, i + 1, out ++ [bs w], [], ⟨by simp, wrap64 (by omega) (by omega), wrap64 (by omega) (by omega)⟩, by rw [hw]; simp [strRow], by omega, by simp; omega, .inr ⟨by omega, hd⟩⟩
  ·rw [byte_drop (by omega), cutF] at hd
   generalize text[i]?.getD 0 = b at hd hb
   have hb2 : b = 10 := UInt8.toNat_inj.1 (by have : (10 : UInt8).toNat = 10 := rfl; omega)
   rw [if_pos hb2, dropE_cons cut_ne] at hd
   exact ⟨⟨by omega, by omega, by omega⟩, by unfold Room; omega, q - 1, by omega, i + 1, i + 1, out ++ [bs w], [], ⟨by simp, wrap64 (by omega) (by omega), wrap64 (by omega) (by omega)⟩, by rw [hw]; simp [strRow], by omega, by simp; omega, .inl ⟨by omega, by omega, ext_nil, by simp, by rw [hd]; simp⟩⟩
  ·have hs2 := ext_snoc hw ha (by omega)
   rw [byte_drop (by omega), cutF] at hd
   generalize text[i]?.getD 0 = b at hd hb hs2
   rw [if_neg (by rintro rfl; exact hb rfl)] at hd
   exact ⟨q - 1, by omega, i + 1, a, out, w ++ [b], ⟨rfl, rfl, wrap64 (by omega) (by omega)⟩, rfl, by omega, by omega, .inl ⟨by omega, by omega, hs2, by simp; omega, hd⟩⟩
 ·rcases hd with ⟨hi, _⟩ | ⟨_, hd⟩
  ·omega
  subst hd
  refine ⟨fun h60 => ?_, fun h60 => ?_⟩
  ·have e1 : conO text = [] := if_pos (by omega)
   have e2 : conB text = false := decide_eq_false (fun k => k (by omega))
   rw [e1, e2]
   exact ⟨⟨rfl, rfl⟩, rfl⟩
  have e1 : conO text = conRun noT (linesV text) := if_neg (by omega)
  have e2 : conB text = true := decide_eq_true (by omega)
  rw [e1, e2]
  generalize linesV text = L at hmem h60 ⊢
  refine T.loopW mixed [4, 7, 8, 9] (fun mm vs es => ∃ (j : Nat) (t : DTrek) (cells : List A) (o : List ByteArray), vs = [.at (.ow 100 0 1 L.length), .at (.bx 101 0 0), .at (.ow 102 0 1 o.length), .at (.v (.int .i64 (j : Nat)))] /\ es = [.arr 0 1 (L.map strRow), .box 0 cells, .arr 0 1 (o.map strRow)] /\ mm + j = L.length /\ o.length = j /\ Told t /\ (cells = t.ats \/ (t = noT /\ cells = nilS)) /\ conRun noT L = o ++ conRun t (L.drop j)) L.length ?_ ?_
  ·simp -implicitDefEqProofs only [go_sem]
   exact ⟨0, noT, nilS, [], ⟨rfl, rfl⟩, ⟨rfl, rfl⟩, by omega, rfl, told_no, .inr ⟨rfl, rfl⟩, by simp⟩
  rintro q2 _ _ ⟨j, t, cells, o, rfl, rfl, hq2, ho2, ht, hcell, hrun⟩
  simp -implicitDefEqProofs only [go_sem]
  refine ⟨fun hlt => ?_, fun hlt => ?_⟩
  ·rcases hcell with rfl | ⟨rfl, rfl⟩
   ·refine ⟨some [1160], by decide +kernel, ?_⟩
    simp -implicitDefEqProofs only [go_sem]
    refine ⟨by omega, by omega, fun s hs => ?_⟩
    have hsz := hmem s (List.mem_of_getElem? hs)
    rw [getE hs, conRun] at hrun
    refine callXQ [] ((spec_ConsoleLine t s ht (by omega)).frozen) (by simp -implicitDefEqProofs only [go_sem]) ?_
    simp -implicitDefEqProofs only [go_sem]
    exact ⟨by unfold Room; omega, q2 - 1, by omega, j + 1, (conZ t s).1, (conZ t s).1.ats, o ++ [(conZ t s).2], ⟨by simp, wrap64 (by omega) (by omega)⟩, ⟨rfl, by simp [strRow]⟩, by omega, by simp; omega, told_con s ht, .inl rfl, by rw [hrun]; simp⟩
   ·unfold nilS
    refine ⟨some [1160], by decide +kernel, ?_⟩
    simp -implicitDefEqProofs only [go_sem]
    refine ⟨by omega, by omega, fun s hs => ?_⟩
    have hsz := hmem s (List.mem_of_getElem? hs)
    rw [getE hs, conRun] at hrun
    have cn : SC Tryz.prog 19 [.ag imS, .at (.v (.string s))] [] (.tp [.ag (conZ noT s).1.frs, .at (.v (.string ((conZ noT s).2)))]) [] := spec_ConsoleLine noT s told_no (by omega)
    refine callXQ [] (cn.frozen) (by simp -implicitDefEqProofs only [go_sem]) ?_
    simp -implicitDefEqProofs only [go_sem]
    exact ⟨by unfold Room; omega, q2 - 1, by omega, j + 1, (conZ noT s).1, (conZ noT s).1.ats, o ++ [(conZ noT s).2], ⟨by simp, wrap64 (by omega) (by omega)⟩, ⟨rfl, by simp [strRow]⟩, by omega, by simp; omega, told_con s ht, .inl rfl, by rw [hrun]; simp⟩
  ·rw [List.drop_eq_nil_of_le (by omega), conRun, List.append_nil] at hrun
   rw [hrun]
   exact ⟨rfl, rfl⟩
end Go.Abs
