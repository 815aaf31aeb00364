/- The law FnConsole: its walk. -/
import Derived.Test.YthobmgkagcampaaGreatDoorAConD
import Derived.Test.YthobmgkagcampaaGreatDoorAEqT
namespace Go.Abs
open Go.RowKit Go.Proofs
set_option linter.all false
set_option maxRecDepth 100000
set_option maxHeartbeats 4000000
theorem laws_big (code : List Int) (h : code.length <= maxLen) : SC Tryz.prog 6 [.at (.im 1 (code.map byteRow))] [] (.at (.v (.bool (decide ((1048576 : Int) < code.length))))) [] := by
 refine SC.of_V mixed Tryz.func6 (by kernel_rfl) rfl Tryz.results6 _ Tryz.ntmps6 (by simp) ?_
 simp -implicitDefEqProofs only [go_sem]
theorem show_ne (s : ByteArray) : showV s ≠ kNone := by
 unfold showV
 split
 ·decide
 ·assumption
theorem tell_ne (t : DTrek) (w : ByteArray) : tellZ t w ≠ kNone := by
 unfold tellZ
 split
 ·exact show_ne _
 ·decide
theorem kWhat_ne : kWhat ≠ kNone := by decide
theorem kOk_ne : kOk ≠ kNone /\ kOk ≠ kWhat := by decide
theorem kNo_ne : kNo ≠ kNone := by decide
theorem con_out (t : DTrek) (line : ByteArray) : ((conZ t line).2 = kWhat -> (conZ t line).1 = t) /\ (conZ t line).2 ≠ kNone := by
 unfold conZ
 split
 ·exact ⟨fun _ => rfl, kWhat_ne⟩
 ·split
  ·exact ⟨fun _ => rfl, kWhat_ne⟩
  ·unfold conW doneN doneE
   split
   ·split
    ·exact ⟨fun h => absurd h kOk_ne.2, kOk_ne.1⟩
    ·exact ⟨fun _ => rfl, kNo_ne⟩
   ·split
    ·split
     ·exact ⟨fun h => absurd h kOk_ne.2, kOk_ne.1⟩
     ·exact ⟨fun _ => rfl, kNo_ne⟩
    ·split
     ·exact ⟨fun _ => rfl, tell_ne _ _⟩
     ·exact ⟨fun _ => rfl, kWhat_ne⟩
theorem con_look (t : DTrek) {line : ByteArray} (h : (wordsV line).length <= 1) : (conZ t line).1 = t := by
 unfold conZ
 split
 ·rfl
 ·rename_i w0 ws e
  rw [e] at h
  have hw : ws = [] := List.eq_nil_of_length_eq_zero (by rw [List.length_cons] at h; omega)
  subst hw
  split
  ·rfl
  ·have hev : eventZ t.land w0 [] = noE := by rw [eventZ, if_neg (fun k => absurd k.1 (by simp)), if_neg (fun k => absurd k.2 (by simp [numsP]))]
   rw [conW, if_neg (fun k => absurd k.2.1 (by simp [numsP])), hev, if_neg (by decide), if_pos rfl]
def askL : List ByteArray := [⟨#[109, 97, 121]⟩, ⟨#[116, 97, 114, 103, 101, 116, 115]⟩, ⟨#[108, 97, 116, 101, 115, 116]⟩, ⟨#[119, 111, 114, 115, 116]⟩, ⟨#[108, 97, 121]⟩, ⟨#[119, 97, 121]⟩, ⟨#[108, 97, 110, 100]⟩, ⟨#[112, 97, 114, 116, 121]⟩, ⟨#[100, 101, 112, 111, 116, 115]⟩, ⟨#[106, 111, 117, 114, 110, 97, 108]⟩, ⟨#[116, 114, 101, 107]⟩, ⟨#[97, 117, 100, 105, 116]⟩, ⟨#[]⟩]
theorem ask_ok : ∀ s ∈ askL, (wordsV s).length <= 1 /\ s.size <= 1048576 := by
 intro s hs
 simp only [askL, List.mem_cons, List.not_mem_nil, or_false] at hs
 rcases hs with rfl | rfl | rfl | rfl | rfl | rfl | rfl | rfl | rfl | rfl | rfl | rfl | rfl <;> exact ⟨by unfold wordsV; exact Nat.le_trans (List.length_filter_le _ _) (by decide), by decide⟩
theorem ex_text : landT exZ = (⟨#[46, 46, 46, 46, 46, 47, 46, 35, 35, 105, 46, 47, 46, 46, 46, 105, 46, 47, 46, 35, 46, 46, 46]⟩ : ByteArray) := by
 have hok : exZ.Ok := ⟨by decide, by decide, by decide, by
  intro j c hj
  have : ∀ c ∈ exL, 0 <= c /\ c <= 2 := by decide
  exact this c (List.mem_of_getElem? hj)⟩
 rw [landT, if_pos hok]
 rfl
theorem tl_decC (a b : ByteArray) : (a.toList == b.toList) = decide (a = b) := by
 rcases a with ⟨⟨x⟩⟩
 rcases b with ⟨⟨y⟩⟩
 rw [ByteArray.toList_mk, ByteArray.toList_mk]
 by_cases h : x = y
 ·subst h; simp
 ·rw [decide_eq_false (fun e => h (by injection e with e; injection e)), beq_eq_false_iff_ne]; exact h
def cntC (c : UInt8) (s : ByteArray) (i : Nat) : Nat := (s.data.toList.take i).count c
theorem cntC_end {c : UInt8} {s : ByteArray} {i : Nat} (h : s.size <= i) : cntC c s i = s.data.toList.count c := by
 unfold cntC
 rw [List.take_of_length_le (by rw [Array.length_toList]; exact h)]
theorem cntC_S {c : UInt8} {s : ByteArray} {i : Nat} {b : UInt8} (h : s.data.toList[i]? = some b) : cntC c s (i + 1) = cntC c s i + if b = c then 1 else 0 := by
 unfold cntC
 rw [List.take_add_one, h, Option.toList_some, List.count_append, List.count_singleton]
 simp only [beq_iff_eq]
theorem cntC_le {c : UInt8} {s : ByteArray} {i : Nat} : cntC c s i <= i := by
 unfold cntC
 exact Nat.le_trans List.count_le_length (by rw [List.length_take]; omega)
theorem cntC_round {c : UInt8} {k : Int} {s : ByteArray} {q i : Nat} (hk : (c.toNat : Int) = k) (hs : s.size <= 1073741824) (hq : q + i = s.size) (h : (i : Int) < s.size) :
  (0 <= (i : Int) /\ (i : Int) < s.size) /\
   ((((s[i]?.getD 0).toNat : Nat) : Int) = k -> ∃ n', n' < q /\ ∃ j : Nat, (IntKind.i64.wrap ((cntC c s i : Int) + 1) = (cntC c s j : Int) /\ IntKind.i64.wrap ((i : Int) + 1) = (j : Int)) /\ n' + j = s.size) /\
   (¬ (((s[i]?.getD 0).toNat : Nat) : Int) = k -> ∃ n', n' < q /\ ∃ j : Nat, ((cntC c s i : Int) = (cntC c s j : Int) /\ IntKind.i64.wrap ((i : Int) + 1) = (j : Int)) /\ n' + j = s.size) := by
 have hb := byte_at (s := s) (i := i) (by omega)
 have hS := cntC_S (c := c) hb
 have hle := cntC_le (c := c) (s := s) (i := i)
 generalize hx : s[i]?.getD 0 = b at hS ⊢
 refine ⟨by omega, fun e => ?_, fun e => ?_⟩
 ·have : b = c := UInt8.toNat_inj.1 (by omega)
  rw [if_pos this] at hS
  exact ⟨q - 1, by omega, i + 1, ⟨by rw [hS, wrap64 (by omega) (by omega)]; omega, by rw [wrap64 (by omega) (by omega)]; omega⟩, by omega⟩
 ·have : ¬ b = c := by rintro rfl; exact e hk
  rw [if_neg this] at hS
  exact ⟨q - 1, by omega, i + 1, ⟨by rw [hS]; rfl, by rw [wrap64 (by omega) (by omega)]; omega⟩, by omega⟩
theorem ends_lines {s : ByteArray} (h : Ends s) : (linesV s).length = s.data.toList.count 10 := by
 rcases h with rfl | ⟨l, rfl⟩
 ·unfold linesV
  show (dropE (cutF 10 [] [])).length = 0
  rw [cutF, dropE_one_e]; rfl
 ·exact (lines_full l []).2
theorem run_out {s : ByteArray} (h : Ends s) : (conB s = true -> (conO s).length = s.data.toList.count 10) /\ (conB s = false -> (conO s).length = 0 /\ 60 < s.data.toList.count 10) := by
 have hl := ends_lines h
 unfold conB conO
 rw [<- hl]
 refine ⟨fun k => ?_, fun k => ?_⟩
 ·have := of_decide_eq_true k
  rw [if_neg this, conRun_len]
 ·have := of_decide_eq_false k
  rw [Decidable.not_not] at this
  exact ⟨by rw [if_pos this]; rfl, this⟩
end Go.Abs
namespace Go.Abs
open Go.RowKit Go.Proofs
set_option linter.all false
set_option maxRecDepth 100000
set_option maxHeartbeats 4000000
theorem law_Console (code : List Int) (code_max : code.length <= maxLen) : SC Tryz.prog 3 [.at (.im 1 (code.map byteRow))] [] (.at (.v (.bool true))) [] := by
 refine SC.of_V mixed Tryz.func3 (by kernel_rfl) rfl Tryz.results3 _ Tryz.ntmps3 (by simp) ?_
 simp -implicitDefEqProofs only [go_sem]
 refine callX [] (laws_big code code_max) (by simp -implicitDefEqProofs only [go_sem]) ?_
 simp -implicitDefEqProofs only [go_sem]
 intro hbig
 have hl : code.length <= 1099511627776 := by omega
 have ht := cdT_told hl
 have hv : (cdL code).size <= 7 := lnV_len _
 refine callX [] ((spec_DrawConsoleLine code hl).frozen) (by simp -implicitDefEqProofs only [go_sem]) ?_
 simp -implicitDefEqProofs only [go_sem]
 refine callX [] ((impl_ConsoleLine (cdT code) (cdL code) ht (by omega)).frozen) (by simp -implicitDefEqProofs only [go_sem]) ?_
 simp -implicitDefEqProofs only [go_sem]
 have hx := told_con (cdL code) ht
 have ho := con_out (cdT code) (cdL code)
 generalize cdT code = t at ht hx ho ⊢
 generalize conZ t (cdL code) = r at hx ho ⊢
 have hne : ¬ (r.2.toList == (⟨#[]⟩ : ByteArray).toList) = true := by rw [tl_decC, decide_eq_true_eq]; exact ho.2
 refine ⟨fun hw => ?_, fun hw => ?_⟩
 ·refine callX [] (impl_EqualTreks r.1 t hx.sane.fit) (by simp -implicitDefEqProofs only [go_sem]) ?_
  simp -implicitDefEqProofs only [go_sem]
  have he : r.1 = t := ho.1 (by rw [tl_decC, decide_eq_true_eq] at hw; exact hw)
  refine ⟨fun _ => ⟨fun c => hne c, fun _ => ?_⟩, fun c => c he⟩
  refine T.loopW mixed [0, 5, 41, 42, 43] (fun mm vs es => ∃ (i : Nat), vs = [.at (.im 1 (code.map byteRow)), .at (.bx 100 0 0), .at (.ow 101 0 1 13), .at (.v (.int .i64 13)), .at (.v (.int .i64 (i : Nat)))] /\ es = [.box 0 r.1.ats, .arr 0 1 (askL.map strRow)] /\ mm + i = 13) 13 ?_ ?_
  ·simp -implicitDefEqProofs only [go_sem]
   exact ⟨0, ⟨rfl, rfl⟩, rfl, rfl⟩
  rintro q _ _ ⟨i, rfl, rfl, hq⟩
  simp -implicitDefEqProofs only [go_sem]
  refine ⟨fun hlt => ⟨by omega, by show i < 13; omega, fun s hs => ?_⟩, fun hge => ?_⟩
  ·have hk := ask_ok s (List.mem_of_getElem? hs)
   refine callX [] ((impl_ConsoleLine r.1 s hx hk.2).frozen) (by simp -implicitDefEqProofs only [go_sem]) ?_
   simp -implicitDefEqProofs only [go_sem]
   have h1 := con_look r.1 hk.1
   have h2 := con_out r.1 s
   refine callX [] (impl_EqualTreks r.1 (conZ r.1 s).1 hx.sane.fit) (by simp -implicitDefEqProofs only [go_sem]) ?_
   simp -implicitDefEqProofs only [go_sem]
   refine ⟨fun _ => ⟨fun c => h2.2 (by rw [tl_decC, decide_eq_true_eq] at c; exact c), fun _ => ?_⟩, fun c => c h1.symm⟩
   exact ⟨q - 1, by omega, i + 1, wrap64 (by omega) (by omega), by omega⟩
  refine callX [] ((impl_ExampleLand).frozen) (by simp -implicitDefEqProofs only [go_sem]) ?_
  simp -implicitDefEqProofs only [go_sem]
  refine callX [] (impl_LandText exZ (by decide)) (by simp -implicitDefEqProofs only [go_sem]) ?_
  simp -implicitDefEqProofs only [go_sem]
  rw [ex_text]
  refine ⟨fun c => absurd c (by simp), fun _ => ?_⟩
  refine callX [] (spec_DrawRunConsole code hl) (by simp -implicitDefEqProofs only [go_sem]) ?_
  simp -implicitDefEqProofs only [go_sem]
  have hT := rcT_ok code
  generalize rcT code = S at hT ⊢
  refine callX [] ((impl_RunConsole S (by omega)).frozen) (by simp -implicitDefEqProofs only [go_sem]) ?_
  simp -implicitDefEqProofs only [go_sem]
  refine T.loopW mixed [11, 12, 13, 14, 15] (fun mm vs es => ∃ (i : Nat), vs = [.at (.v (.string S)), .at (.im 1 ((conO S).map strRow)), .at (.v (.bool (conB S))), .at (.v (.int .i64 (cntC 10 S i : Nat))), .at (.v (.int .i64 (i : Nat)))] /\ es = [] /\ mm + i = S.size) S.size ?_ ?_
  ·simp -implicitDefEqProofs only [go_sem]
   exact ⟨0, ⟨rfl, rfl⟩, by omega⟩
  rintro q2 _ _ ⟨j, rfl, rfl, hq2⟩
  simp -implicitDefEqProofs only [go_sem]
  refine ⟨fun hlt => cntC_round (c := 10) rfl (by omega) hq2 hlt, fun hlt => ?_⟩
  rw [cntC_end (by omega)]
  have hr := run_out hT.1
  refine ⟨fun c d => absurd (by rw [hr.1 c]) d, fun c => ⟨fun _ => ⟨fun _ => ?_, fun d => d (by rw [(hr.2 c).1]; rfl)⟩, fun d => ?_⟩⟩
  ·have := (hr.2 c).2; omega
  ·rw [c] at d; cases d
 ·refine ⟨fun c => hne c, fun _ => ?_⟩
  refine T.loopW mixed [0, 5, 41, 42, 43] (fun mm vs es => ∃ (i : Nat), vs = [.at (.im 1 (code.map byteRow)), .at (.bx 100 0 0), .at (.ow 101 0 1 13), .at (.v (.int .i64 13)), .at (.v (.int .i64 (i : Nat)))] /\ es = [.box 0 r.1.ats, .arr 0 1 (askL.map strRow)] /\ mm + i = 13) 13 ?_ ?_
  ·simp -implicitDefEqProofs only [go_sem]
   exact ⟨0, ⟨rfl, rfl⟩, rfl, rfl⟩
  rintro q _ _ ⟨i, rfl, rfl, hq⟩
  simp -implicitDefEqProofs only [go_sem]
  refine ⟨fun hlt => ⟨by omega, by show i < 13; omega, fun s hs => ?_⟩, fun hge => ?_⟩
  ·have hk := ask_ok s (List.mem_of_getElem? hs)
   refine callX [] ((impl_ConsoleLine r.1 s hx hk.2).frozen) (by simp -implicitDefEqProofs only [go_sem]) ?_
   simp -implicitDefEqProofs only [go_sem]
   have h1 := con_look r.1 hk.1
   have h2 := con_out r.1 s
   refine callX [] (impl_EqualTreks r.1 (conZ r.1 s).1 hx.sane.fit) (by simp -implicitDefEqProofs only [go_sem]) ?_
   simp -implicitDefEqProofs only [go_sem]
   refine ⟨fun _ => ⟨fun c => h2.2 (by rw [tl_decC, decide_eq_true_eq] at c; exact c), fun _ => ?_⟩, fun c => c h1.symm⟩
   exact ⟨q - 1, by omega, i + 1, wrap64 (by omega) (by omega), by omega⟩
  refine callX [] ((impl_ExampleLand).frozen) (by simp -implicitDefEqProofs only [go_sem]) ?_
  simp -implicitDefEqProofs only [go_sem]
  refine callX [] (impl_LandText exZ (by decide)) (by simp -implicitDefEqProofs only [go_sem]) ?_
  simp -implicitDefEqProofs only [go_sem]
  rw [ex_text]
  refine ⟨fun c => absurd c (by simp), fun _ => ?_⟩
  refine callX [] (spec_DrawRunConsole code hl) (by simp -implicitDefEqProofs only [go_sem]) ?_
  simp -implicitDefEqProofs only [go_sem]
  have hT := rcT_ok code
  generalize rcT code = S at hT ⊢
  refine callX [] ((impl_RunConsole S (by omega)).frozen) (by simp -implicitDefEqProofs only [go_sem]) ?_
  simp -implicitDefEqProofs only [go_sem]
  refine T.loopW mixed [11, 12, 13, 14, 15] (fun mm vs es => ∃ (i : Nat), vs = [.at (.v (.string S)), .at (.im 1 ((conO S).map strRow)), .at (.v (.bool (conB S))), .at (.v (.int .i64 (cntC 10 S i : Nat))), .at (.v (.int .i64 (i : Nat)))] /\ es = [] /\ mm + i = S.size) S.size ?_ ?_
  ·simp -implicitDefEqProofs only [go_sem]
   exact ⟨0, ⟨rfl, rfl⟩, by omega⟩
  rintro q2 _ _ ⟨j, rfl, rfl, hq2⟩
  simp -implicitDefEqProofs only [go_sem]
  refine ⟨fun hlt => cntC_round (c := 10) rfl (by omega) hq2 hlt, fun hlt => ?_⟩
  rw [cntC_end (by omega)]
  have hr := run_out hT.1
  refine ⟨fun c d => absurd (by rw [hr.1 c]) d, fun c => ⟨fun _ => ⟨fun _ => ?_, fun d => d (by rw [(hr.2 c).1]; rfl)⟩, fun d => ?_⟩⟩
  ·have := (hr.2 c).2; omega
  ·rw [c] at d; cases d
end Go.Abs
