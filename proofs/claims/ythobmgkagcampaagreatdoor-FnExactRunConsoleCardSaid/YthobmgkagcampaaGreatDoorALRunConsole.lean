import Derived.Test.YthobmgkagcampaaGreatDoorAConT
import Derived.Test.YthobmgkagcampaaGreatDoorAConV
import Derived.Test.YthobmgkagcampaaGreatDoorAConX
namespace Go.Abs
open Go.RowKit Go.Proofs
set_option linter.all false
set_option maxRecDepth 100000
set_option maxHeartbeats 4000000
def markT (k : Int) : ByteArray := bs (109 :: Lib.decDigits k.toNat)
def markStr (k : Int) : List Value := [.string (markT k)]
theorem laws_markText (k : Int) (h : k <= 2251799813685248) : SC Tryz.prog 39 [.at (.v (.int .i64 k))] [] (.at (.v (.string (markT k)))) [] := by
 refine SC.of_V mixed Tryz.func39 (by kernel_rfl) rfl Tryz.results39 _ Tryz.ntmps39 (by simp) ?_
 simp -implicitDefEqProofs only [go_sem]
 refine ⟨fun h0 => ?_, fun h0 => ?_⟩
 ·rw [markT, show k.toNat = 0 by omega, dec_one (by decide)]; rfl
 refine T.loopW mixed [0, 3] (fun mm vs es => ∃ (x : Nat) (s : List UInt8), vs = [.at (.v (.int .i64 (x : Nat))), .at (.v (.string (bs s)))] /\ es = [] /\ mm = x /\ digs k.toNat = digs x ++ s /\ x <= k.toNat) k.toNat ?_ ?_
 ·simp -implicitDefEqProofs only [go_sem]; exact ⟨k.toNat, [], ⟨by omega, rfl⟩, rfl, by simp, by omega⟩
 rintro q _ _ ⟨x, s, rfl, rfl, hq, hd, hx⟩
 simp -implicitDefEqProofs only [go_sem]
 have hL := digs_len (u := k.toNat) (by omega)
 have hs : s.length <= 19 := by have := congrArg List.length hd; rw [List.length_append] at this; omega
 refine ⟨fun hx0 => ?_, fun hx0 => ?_⟩
 ·have ht : (x : Int).tmod 10 = ((x % 10 : Nat) : Int) := by rw [Int.tmod_eq_emod_of_nonneg (by omega)]; omega
  have hv : (x : Int).tdiv 10 = ((x / 10 : Nat) : Int) := by rw [Int.tdiv_eq_ediv_of_nonneg (by omega)]; omega
  rw [ht, hv]
  refine ⟨by kernel_rfl, _, digit_row rfl (Nat.mod_lt _ (by decide)), by simp, ?_, x / 10, by omega, x / 10, UInt8.ofNat (48 + x % 10) :: s, ⟨wrap64 (by omega) (by omega), bs_app _ _⟩, rfl, ?_, by omega⟩
  ·rw [bs_size]; simp; omega
  ·rw [hd, digs_step (u := x) (by omega), List.append_assoc]; rfl
 ·have hx2 : x = 0 := by omega
  subst hx2
  have hs2 : s = Lib.decDigits k.toNat := by rw [show digs 0 = [] from rfl, List.nil_append] at hd; rw [<- hd, digs, if_neg (by omega)]
  refine ⟨by rw [bs_size]; simp; omega, ?_⟩
  rw [markT, hs2]; exact bs_app [109] _
theorem laws_markStringS (l : List ByteArray) (k : Int) (h1 : 0 <= k) (h2 : k <= 1125899906842624) (hl : l.length <= 1099511627776) : SC Tryz.prog 16 [.at (.ow 0 0 1 l.length), .at (.v (.int .i64 k))] [.arr 0 1 (l.map strRow)] (.at (.v (.int .i64 (k + 1 * l.length)))) [.arr 0 1 (marks markStr 1 k l.length)] := by
 refine SC.of_M mixed Tryz.func16 (by kernel_rfl) rfl Tryz.results16 _ Tryz.ntmps16 (by simp) (by simp) ?_
 simp -implicitDefEqProofs only [go_sem]
 refine T.loopM mixed [0, 1, 5] (fun n vs es => ∃ i : Nat, vs = [.at (.ow 0 0 1 l.length), .at (.v (.int .i64 (k + 1 * i))), .at (.v (.int .i64 i))] /\ es = [.arr 0 1 (marks markStr 1 k i ++ (l.drop i).map strRow)] /\ n + i = l.length) l.length (by omega) ?_ ?_
 ·simp -implicitDefEqProofs only [go_sem, invOf]
  exact ⟨0, by simp, by simp [marks_zero], by omega⟩
 rintro n _ _ ⟨i, rfl, rfl, hn⟩ -
 simp -implicitDefEqProofs only [go_sem]
 refine ⟨fun h => ?_, fun h => ?_⟩
 ·obtain ⟨x, hx⟩ : ∃ x, l[i]? = some x := ⟨l[i], List.getElem?_eq_getElem (by omega)⟩
  have e0 := marks_mid (g := strRow) (f := markStr) (s := 1) (k := k) hx
  have e1 := marks_set (g := strRow) (f := markStr) (s := 1) (k := k) (r := markStr (k + 1 * i)) hx rfl
  have hR : i < (marks markStr 1 k i ++ (l.drop i).map strRow).length := by simp [marks_length]; omega
  refine callXNB [] [] (laws_markText (k + 1 * i) (by omega)) (by decide) (by simp -implicitDefEqProofs only [go_sem]) (by simp -implicitDefEqProofs only [go_sem]) ?_
  simp -implicitDefEqProofs only [go_sem]
  have hb : (0 : Int) <= i /\ (i : Int) < l.length := by omega
  have hb2 : i < i + (l.length - i) := by omega
  generalize marks markStr 1 k i ++ (l.drop i).map strRow = R at e0 e1 hR ⊢
  simp -implicitDefEqProofs (disch := omega) only [go_sem, invOf, wrap64, e0, hb, hb2, Int.add_assoc, Int.reduceAdd]
  refine ⟨n - 1, by omega, i + 1, ⟨by omega, by omega⟩, ?_, by omega⟩
  exact (congrArg (R.set i) (by simp [markStr, strRow])).trans e1
 ·have : i = l.length := by omega
  subst this
  simp
theorem laws_heldStringS (N : Nat) (k : Int) (h1 : 0 <= k) (h2 : k <= 1125899906842624) (hl : N <= 1099511627776) : SC Tryz.prog 17 [.at (.im 1 (marks markStr 1 k N)), .at (.v (.int .i64 k))] [] (.at (.v (.int .i64 (k + 1 * N)))) [] := by
 unfold marks
 refine SC.of_V mixed Tryz.func17 (by kernel_rfl) rfl Tryz.results17 _ Tryz.ntmps17 (by simp) ?_
 simp -implicitDefEqProofs only [go_sem]
 refine T.loopW mixed [0, 1, 5] (fun mm vs es => ∃ (i : Nat), vs = [.at (.im 1 ((List.range N).map fun (j : Nat) => markStr (k + 1 * (j : Int)))), .at (.v (.int .i64 (k + 1 * i))), .at (.v (.int .i64 i))] /\ es = [] /\ mm + i = N) N ?_ ?_
 ·simp -implicitDefEqProofs only [go_sem]
  exact ⟨0, by simp⟩
 rintro n _ _ ⟨i, rfl, rfl, hn⟩
 simp -implicitDefEqProofs only [go_sem]
 refine ⟨fun h => ?_, fun h => ?_⟩
 ·try simp only [List.length_range] at h
  have hb : (0 : Int) <= i /\ (i : Int) < ((List.range N).length : Int) := by simp only [List.length_range]; omega
  have hg : (List.range N)[i]? = some i := by rw [List.getElem?_range (by omega)]
  refine ⟨some [], by decide +kernel, ?_⟩
  simp -implicitDefEqProofs only [go_sem]
  refine ⟨hb, fun x hx => ?_⟩
  obtain rfl := Option.some.inj (hg.symm.trans hx)
  refine ⟨by simp [markStr], ?_⟩
  refine callXQ [] (laws_markText (k + 1 * i) (by omega)) (by simp -implicitDefEqProofs only [go_sem]) ?_
  simp -implicitDefEqProofs only [go_sem]
  simp -implicitDefEqProofs only [go_sem, markStr, List.getD_cons_zero]
  refine ⟨n - 1, by omega, i + 1, ⟨by rw [wrap64 (by omega) (by omega)]; omega, by rw [wrap64 (by omega) (by omega)]; omega⟩, by omega⟩
 ·try simp only [List.length_range] at h
  have : i = N := by omega
  subst this
  rfl
end Go.Abs
namespace Go.Abs
open Go.RowKit Go.Proofs
set_option linter.all false
set_option maxRecDepth 100000
set_option maxHeartbeats 4000000
theorem law_RunConsole (text : ByteArray) (text_len : text.size <= maxLen) : SC Tryz.prog 4 [.at (.v (.string text))] [] (.at (.v (.bool true))) [] := by
 refine SC.of_V mixed Tryz.func4 (by kernel_rfl) rfl Tryz.results4 _ Tryz.ntmps4 (by simp) ?_
 simp -implicitDefEqProofs only [go_sem]
 intro hstr
 refine callX [] ((spec_RunConsole text (by omega)).frozen) (by simp -implicitDefEqProofs only [go_sem]) ?_
 simp -implicitDefEqProofs only [go_sem]
 refine callX [] (impl_RunConsole text (by omega)) (by simp -implicitDefEqProofs only [go_sem]) ?_
 simp -implicitDefEqProofs only [go_sem]
 have hres1 : (conO text).length <= 1099511627776 := (Nat.le_trans (conO_len text) (by decide))
 refine callX [1336] (laws_eqStringS (conO text) (conO text) (Nat.le_trans (conO_len text) (by decide))) (by simp -implicitDefEqProofs only [go_sem]) ?_
 simp -implicitDefEqProofs only [go_sem]
 refine callXM [1336] (laws_markStringS (conO text) (1) (by omega) (by omega) (Nat.le_trans (conO_len text) (by decide))) (by decide) (by simp -implicitDefEqProofs only [go_sem]) ?_
 simp -implicitDefEqProofs only [go_sem]
 refine callX [1336] (laws_heldStringS (conO text).length (1) (by omega) (by omega) (Nat.le_trans (conO_len text) (by decide))) (by simp -implicitDefEqProofs only [go_sem]) ?_
 simp -implicitDefEqProofs only [go_sem]
 refine ⟨by omega, fun _ => ?_⟩
 refine callX [] ((impl_RunConsole text (by omega)).frozen) (by simp -implicitDefEqProofs only [go_sem]) ?_
 simp -implicitDefEqProofs only [go_sem]
 refine callX [] (laws_eqStringS (conO text) (conO text) (Nat.le_trans (conO_len text) (by decide))) (by simp -implicitDefEqProofs only [go_sem]) ?_
 simp -implicitDefEqProofs only [go_sem]
 refine callX [1336] (laws_heldStringS (conO text).length (1) (by omega) (by omega) (Nat.le_trans (conO_len text) (by decide))) (by simp -implicitDefEqProofs only [go_sem]) ?_
 simp -implicitDefEqProofs only [go_sem]
 omega
end Go.Abs
