/- Lines and texts for the console, as they are drawn. -/
import Derived.Test.YthobmgkagcampaaGreatDoorACur
import Derived.Test.YthobmgkagcampaaGreatDoorADrawS
namespace Go.Abs
open Go.RowKit Go.Proofs
set_option linter.all false
set_option maxRecDepth 100000
set_option maxHeartbeats 4000000
noncomputable def strV (s : DCur) (l : List ByteArray) : ByteArray := l.getD (belowV s l.length).toNat kNone
theorem strV_mem (s : DCur) {l : List ByteArray} (h : l ≠ []) : strV s l ∈ l := by
 have h0 : 0 < l.length := List.length_pos_iff.2 h
 have hb := belowV_bnd s l.length
 have hi : (belowV s l.length).toNat < l.length := by have := hb.2.1 (by omega); omega
 rw [strV, List.getD_eq_getElem?_getD, List.getElem?_eq_getElem hi]
 exact List.getElem_mem hi
theorem spec_l1Str (s : DCur) (l : List ByteArray) (h : s.Ok) (hl : l ≠ []) (hm : l.length <= 1048576) : SC Tryz.prog 80 [.at (.bx 0 0 0), .at (.im 1 (l.map strRow))] [.box 0 s.ats] (.at (.v (.string (strV s l)))) [.box 0 (belowS s l.length).ats] := by
 refine SC.of_M mixed Tryz.func80 (by kernel_rfl) rfl Tryz.results80 _ Tryz.ntmps80 (by simp) (by simp) ?_
 simp -implicitDefEqProofs only [go_sem, invOf]
 refine callXN [0] (spec_l1Below s l.length h) (by decide) (by simp -implicitDefEqProofs only [go_sem]) ?_
 simp -implicitDefEqProofs only [go_sem]
 have hb := belowV_bnd s l.length
 have h0 : 0 < l.length := List.length_pos_iff.2 hl
 refine ⟨by have := hb.2.1 (by omega); omega, fun x hx => ?_⟩
 rw [strV, List.getD_eq_getElem?_getD, hx]; rfl
def lnL : List ByteArray := [⟨#[110, 101, 119, 32, 49, 32, 51]⟩, ⟨#[110, 101, 119, 32, 51, 32, 51]⟩, ⟨#[110, 101, 119, 32, 48, 32, 49]⟩, ⟨#[110, 101, 119, 32, 49]⟩, ⟨#[103, 105, 118, 101, 32, 51, 50]⟩, ⟨#[103, 105, 118, 101, 32, 53]⟩, ⟨#[103, 105, 118, 101, 32, 57, 57]⟩, ⟨#[103, 111, 32, 98, 48, 32, 48]⟩, ⟨#[103, 111, 32, 99, 48, 32, 48]⟩, ⟨#[103, 111, 32, 100, 48, 32, 48]⟩, ⟨#[103, 111, 32, 97, 49, 32, 48]⟩, ⟨#[103, 111, 32, 101, 48, 32, 49]⟩, ⟨#[103, 111, 32, 98, 49, 32, 48]⟩, ⟨#[103, 111, 32, 122, 57, 32, 48]⟩, ⟨#[103, 111, 32, 98, 48, 32, 50]⟩, ⟨#[119, 97, 105, 116, 32, 48]⟩, ⟨#[119, 97, 105, 116, 32, 49]⟩, ⟨#[104, 111, 109, 101, 32, 48]⟩, ⟨#[104, 111, 109, 101, 32, 49]⟩, ⟨#[104, 111, 109, 101, 32, 50]⟩, ⟨#[108, 97, 121, 32, 52]⟩, ⟨#[108, 97, 121, 32, 57, 48]⟩, ⟨#[116, 97, 107, 101, 32, 50]⟩, ⟨#[116, 97, 107, 101, 32, 48]⟩, ⟨#[109, 97, 121]⟩, ⟨#[116, 97, 114, 103, 101, 116, 115]⟩, ⟨#[108, 97, 116, 101, 115, 116]⟩, ⟨#[119, 111, 114, 115, 116]⟩, ⟨#[108, 97, 121]⟩, ⟨#[119, 97, 121]⟩, ⟨#[108, 97, 110, 100]⟩, ⟨#[112, 97, 114, 116, 121]⟩, ⟨#[100, 101, 112, 111, 116, 115]⟩, ⟨#[106, 111, 117, 114, 110, 97, 108]⟩, ⟨#[116, 114, 101, 107]⟩, ⟨#[97, 117, 100, 105, 116]⟩, ⟨#[]⟩, ⟨#[119, 104, 97, 116]⟩, ⟨#[103, 105, 118, 101, 32, 120]⟩, ⟨#[109, 97, 121, 32, 49]⟩]
noncomputable def lnV (s : DCur) : ByteArray := strV s lnL
def lnS (s : DCur) : DCur := belowS s 40
theorem lnS_ok {s : DCur} (h : s.Ok) : (lnS s).Ok := belowS_ok h 40
theorem lnV_len (s : DCur) : (lnV s).size <= 7 := by
 have h := strV_mem s (l := lnL) (by simp [lnL])
 have k : ∀ x ∈ lnL, x.size <= 7 := by decide
 exact k _ h
theorem spec_l40Line (s : DCur) (h : s.Ok) : SC Tryz.prog 27 [.at (.bx 0 0 0)] [.box 0 s.ats] (.at (.v (.string (lnV s)))) [.box 0 (lnS s).ats] := by
 refine SC.of_M mixed Tryz.func27 (by kernel_rfl) rfl Tryz.results27 _ Tryz.ntmps27 (by simp) (by simp) ?_
 simp -implicitDefEqProofs only [go_sem, invOf]
 refine callXNB [0] [1064] (spec_l1Str s lnL h (by simp [lnL]) (by decide)) (by decide) (by simp -implicitDefEqProofs only [go_sem]; rfl) (by simp -implicitDefEqProofs only [go_sem]) ?_
 simp -implicitDefEqProofs only [go_sem, invOf]
 exact ⟨rfl, rfl⟩
theorem told_apply {t : DTrek} {e : DEvent} (he : I64 e.n) (h : Told t) : Told (applyZ t e) := by
 have hk := apply_keep (t := t) (e := e)
 by_cases ht : trekP t
 ·exact told_trek (applyZ_sane h.sane he) (hk.1 ht)
 ·rw [hk.2 ht]; exact h
theorem told_it34 : ∀ (n : Nat) (t : DTrek) (s : DCur), Told t -> s.Ok -> Told (it34 n t s).1 := by
 intro n
 induction n with
 | zero => intro t s h1 _; exact h1
 | succ n ih => intro t s h1 h2; exact ih _ _ (told_apply (ev34_ok h2).1 h1) (ev34_ok h2).2
theorem told_new {x : DLand} {base : Int} {r : DRule} {crew : List DMember} (h : (newTrekZ x base r crew).Sane) : Told (newTrekZ x base r crew) := by
 unfold newTrekZ at h ⊢
 split
 ·rename_i k; rw [if_pos k] at h; exact told_trek h k
 ·exact told_no
theorem told_34 {s : DCur} (h : s.Ok) : Told (draw34 s).1 := by
 have h1 := start33_ok h
 have h2 : Told (start33 s).1 := told_new h1.1.sane
 have h3 : Told (a34 s) := by
  have e := (apply_1 (t := (start33 s).1) (e := ⟨1, roomZ (start33 s).1.party, false⟩) rfl).1
  have hf := giveZ_sane (n := roomZ (start33 s).1.party) h1.1.sane
  have hk := giveZ_keep (t := (start33 s).1) (n := roomZ (start33 s).1.party)
  by_cases ht : trekP (start33 s).1
  ·exact told_trek hf (hk.1 ht)
  ·unfold a34; rw [hk.2 ht]; exact h2
 exact told_it34 _ _ _ h3 (belowS_ok h1.2 9)
noncomputable def cdT (code : List Int) : DTrek := if onceV (d34 code).2 8 = true then noT else (d34 code).1
noncomputable def cdL (code : List Int) : ByteArray := lnV (belowS (d34 code).2 8)
theorem cdT_told {code : List Int} (h : code.length <= 1099511627776) : Told (cdT code) := by
 unfold cdT
 split
 ·exact told_no
 ·exact told_34 (newCur_ok h)
theorem spec_DrawConsoleLine (code : List Int) (hl : code.length <= 1099511627776) : SC Tryz.prog 7 [.at (.im 1 (code.map byteRow))] [] (.tp [.ag (cdT code).ats, .at (.v (.string (cdL code)))]) [] := by
 have h1 := d34_ok hl
 have h2 : (belowS (d34 code).2 8).Ok := belowS_ok h1.2 8
 refine SC.of_W mixed Tryz.func7 (by kernel_rfl) rfl Tryz.results7 _ Tryz.ntmps7 (by simp) ?_
 simp -implicitDefEqProofs only [go_sem]
 refine callX [] (spec_l1New code hl) (by simp -implicitDefEqProofs only [go_sem]) ?_
 simp -implicitDefEqProofs only [go_sem]
 refine callXNB [1112] [] (spec_l34Draw (newCur code) (newCur_ok hl)) (by decide) (by simp -implicitDefEqProofs only [go_sem]) (by simp -implicitDefEqProofs only [go_sem]) ?_
 simp -implicitDefEqProofs only [go_sem]
 rw [show draw34 (newCur code) = d34 code from rfl]
 refine callXNB [1112] [] (spec_l1Once (d34 code).2 8 h1.2) (by decide) (by simp -implicitDefEqProofs only [go_sem]) (by simp -implicitDefEqProofs only [go_sem]) ?_
 simp -implicitDefEqProofs only [go_sem]
 refine ⟨fun k => ?_, fun k => ?_⟩
 ·rw [show cdT code = noT from if_pos k]
  refine ⟨some [999999, 1112], by decide +kernel, ?_⟩
  simp -implicitDefEqProofs only [go_sem]
  refine callXNQ [1112] [] (by decide) (spec_l40Line (belowS (d34 code).2 8) h2) (by decide) (by simp -implicitDefEqProofs only [go_sem]) (by simp -implicitDefEqProofs only [go_sem]) ?_
  simp -implicitDefEqProofs only [go_sem]
  exact ⟨⟨rfl, rfl, rfl, rfl, rfl, rfl, rfl, rfl, rfl, rfl, rfl, rfl, rfl, rfl, rfl⟩, rfl⟩
 ·rw [show cdT code = (d34 code).1 from if_neg (by rw [k]; decide)]
  refine ⟨some [999999, 1112], by decide +kernel, ?_⟩
  simp -implicitDefEqProofs only [go_sem]
  refine callXNQ [1112] [] (by decide) (spec_l40Line (belowS (d34 code).2 8) h2) (by decide) (by simp -implicitDefEqProofs only [go_sem]) (by simp -implicitDefEqProofs only [go_sem]) ?_
  simp -implicitDefEqProofs only [go_sem]
  rfl
def trS : Nat -> ByteArray
 | 0 => ⟨#[]⟩
 | n + 1 => trS n ++ ⟨#[116, 114, 101, 107, 10]⟩
noncomputable def lnF : Nat -> DCur -> ByteArray -> ByteArray
 | 0, _, w => w
 | n + 1, y, w => lnF n (lnS y) (w ++ lnV y ++ ⟨#[10]⟩)
noncomputable def rcH (code : List Int) : ByteArray := if onceV (belowS (newCur code) 20) 4 = true then ⟨#[]⟩ else ⟨#[110, 101, 119, 32, 49, 32, 51, 10, 103, 105, 118, 101, 32, 51, 50, 10, 103, 111, 32, 98, 48, 32, 48, 10]⟩
def rcC (code : List Int) : DCur := belowS (belowS (newCur code) 20) 4
noncomputable def rcT (code : List Int) : ByteArray := if onceV (newCur code) 20 = true then trS 61 else lnF (belowV (rcC code) 10).toNat (belowS (rcC code) 10) (rcH code)
def Ends (s : ByteArray) : Prop := s = ⟨#[]⟩ \/ ∃ l, s = bs (l ++ [10])
theorem ends_app {a : ByteArray} : Ends (a ++ ⟨#[10]⟩) := .inr ⟨a.data.toList, by rw [<- bs_app]; rfl⟩
theorem trS_size : ∀ n, (trS n).size = 5 * n := by
 intro n
 induction n with
 | zero => rfl
 | succ n ih => rw [trS, app_size, ih, show (⟨#[116, 114, 101, 107, 10]⟩ : ByteArray).size = 5 from rfl]; omega
theorem trS_ends : ∀ n, Ends (trS n) := by
 intro n
 cases n with
 | zero => exact .inl rfl
 | succ n => exact .inr ⟨(trS n).data.toList ++ [116, 114, 101, 107], by rw [List.append_assoc, trS]; exact bs_app (trS n).data.toList [116, 114, 101, 107, 10]⟩
theorem lnF_ok : ∀ (n : Nat) (y : DCur) (w : ByteArray), Ends w -> Ends (lnF n y w) /\ (lnF n y w).size <= w.size + 8 * n := by
 intro n
 induction n with
 | zero => intro y w h; exact ⟨h, by rw [lnF]; omega⟩
 | succ n ih =>
  intro y w h
  have k := ih (lnS y) (w ++ lnV y ++ ⟨#[10]⟩) ends_app
  have h1 := lnV_len y
  refine ⟨k.1, Nat.le_trans k.2 ?_⟩
  rw [app_size, app_size, show (⟨#[10]⟩ : ByteArray).size = 1 from rfl]; omega
theorem rcH_ok (code : List Int) : Ends (rcH code) /\ (rcH code).size <= 24 := by
 unfold rcH
 split
 ·exact ⟨.inl rfl, by decide⟩
 ·exact ⟨.inr ⟨[110, 101, 119, 32, 49, 32, 51, 10, 103, 105, 118, 101, 32, 51, 50, 10, 103, 111, 32, 98, 48, 32, 48], rfl⟩, by decide⟩
theorem rcT_ok (code : List Int) : Ends (rcT code) /\ (rcT code).size <= 305 := by
 unfold rcT
 split
 ·exact ⟨trS_ends 61, by rw [trS_size]; decide⟩
 ·have h1 := rcH_ok code
  have h2 := lnF_ok (belowV (rcC code) 10).toNat (belowS (rcC code) 10) (rcH code) h1.1
  have hb := belowV_bnd (rcC code) 10
  have hb2 := hb.2.1 (by omega)
  exact ⟨h2.1, by omega⟩
theorem spec_DrawRunConsole (code : List Int) (hl : code.length <= 1099511627776) : SC Tryz.prog 12 [.at (.im 1 (code.map byteRow))] [] (.at (.v (.string (rcT code)))) [] := by
 have o0 := newCur_ok hl
 have o1 : (belowS (newCur code) 20).Ok := belowS_ok o0 20
 have o2 : (rcC code).Ok := belowS_ok o1 4
 have hb := belowV_bnd (rcC code) 10
 have hb2 := hb.2.1 (by omega)
 refine SC.of_W mixed Tryz.func12 (by kernel_rfl) rfl Tryz.results12 _ Tryz.ntmps12 (by simp) ?_
 simp -implicitDefEqProofs only [go_sem]
 refine callX [] (spec_l1New code hl) (by simp -implicitDefEqProofs only [go_sem]) ?_
 simp -implicitDefEqProofs only [go_sem]
 refine callXNB [1128] [] (spec_l1Once (newCur code) 20 o0) (by decide) (by simp -implicitDefEqProofs only [go_sem]) (by simp -implicitDefEqProofs only [go_sem]) ?_
 simp -implicitDefEqProofs only [go_sem]
 refine ⟨fun k => ?_, fun k => ?_⟩
 ·rw [show rcT code = trS 61 from if_pos k]
  refine T.loopW mixed [4, 5] (fun mm vs es => ∃ (i : Nat), vs = [.at (.v (.string (trS i))), .at (.v (.int .i64 (i : Nat)))] /\ es = [] /\ mm + i = 61) 61 ?_ ?_
  ·simp -implicitDefEqProofs only [go_sem]
   exact ⟨0, ⟨rfl, rfl⟩, rfl⟩
  rintro q _ _ ⟨i, rfl, rfl, hq⟩
  simp -implicitDefEqProofs only [go_sem]
  have hs := trS_size i
  refine ⟨fun hi => ?_, fun hi => ?_⟩
  ·exact ⟨by rw [hs]; show 5 * i + 5 <= _; omega, q - 1, by omega, i + 1, ⟨rfl, wrap64 (by omega) (by omega)⟩, by omega⟩
  ·rw [show i = 61 by omega]
 ·have eT : rcT code = lnF (belowV (rcC code) 10).toNat (belowS (rcC code) 10) (rcH code) := if_neg (by rw [k]; decide)
  rw [eT]
  have hh := rcH_ok code
  refine callXNB [1128] [] (spec_l1Once (belowS (newCur code) 20) 4 o1) (by decide) (by simp -implicitDefEqProofs only [go_sem]) (by simp -implicitDefEqProofs only [go_sem]) ?_
  simp -implicitDefEqProofs only [go_sem]
  refine ⟨fun k2 => ?_, fun k2 => ?_⟩
  ·refine callXNB [1128] [] (spec_l1Below (belowS (belowS (newCur code) 20) 4) 10 o2) (by decide) (by simp -implicitDefEqProofs only [go_sem]) (by simp -implicitDefEqProofs only [go_sem]) ?_
   simp -implicitDefEqProofs only [go_sem]
   rw [show belowS (belowS (newCur code) 20) 4 = rcC code from rfl]
   have en : (((belowV (rcC code) 10).toNat : Nat) : Int) = belowV (rcC code) 10 := by omega
   have o3 : (belowS (rcC code) 10).Ok := belowS_ok o2 10
   rw [show rcH code = ⟨#[110, 101, 119, 32, 49, 32, 51, 10, 103, 105, 118, 101, 32, 51, 50, 10, 103, 111, 32, 98, 48, 32, 48, 10]⟩ from if_neg (by rw [k2]; decide)] at hh ⊢
   rw [<- en]
   have hn : (belowV (rcC code) 10).toNat <= 9 := by omega
   generalize (belowV (rcC code) 10).toNat = N at hn ⊢
   have hw := hh.2
   generalize (⟨#[110, 101, 119, 32, 49, 32, 51, 10, 103, 105, 118, 101, 32, 51, 50, 10, 103, 111, 32, 98, 48, 32, 48, 10]⟩ : ByteArray) = w0 at hw ⊢
   generalize hA0 : lnF N (belowS (rcC code) 10) w0 = A
   refine T.loopW mixed [3, 4, 6] (fun mm vs es => ∃ (y : DCur) (w : ByteArray) (i : Nat), vs = [.at (.bx 100 0 0), .at (.v (.string w)), .at (.v (.int .i64 (i : Nat)))] /\ es = [.box 0 y.ats] /\ mm = i /\ i <= 9 /\ y.Ok /\ w.size + 8 * i <= 96 /\ lnF i y w = A) N ?_ ?_
   ·simp -implicitDefEqProofs only [go_sem]
    exact ⟨belowS (rcC code) 10, w0, N, ⟨rfl, rfl⟩, rfl, rfl, hn, o3, by omega, hA0⟩
   rintro q _ _ ⟨y, w, i, rfl, rfl, rfl, hi, hy, hs, hA⟩
   simp -implicitDefEqProofs only [go_sem]
   refine ⟨fun hp => ?_, fun hp => ?_⟩
   ·obtain ⟨k, rfl⟩ : ∃ k, q = k + 1 := ⟨q - 1, by omega⟩
    rw [lnF] at hA
    refine callXNB [100] [] (spec_l40Line y hy) (by decide) (by simp -implicitDefEqProofs only [go_sem]) (by simp -implicitDefEqProofs only [go_sem]) ?_
    simp -implicitDefEqProofs only [go_sem]
    have hv := lnV_len y
    exact ⟨by omega, by show w.size + (lnV y).size + 1 <= _; omega, k, by omega, lnS y, w ++ lnV y ++ ⟨#[10]⟩, k, ⟨rfl, wrapH (by omega) (by omega) (by omega)⟩, rfl, rfl, by omega, lnS_ok hy, by rw [app_size, app_size]; show w.size + (lnV y).size + 1 + _ <= _; omega, hA⟩
   ·obtain rfl : q = 0 := by omega
    rw [lnF] at hA
    rw [hA]; exact hA0.symm
  ·refine callXNB [1128] [] (spec_l1Below (belowS (belowS (newCur code) 20) 4) 10 o2) (by decide) (by simp -implicitDefEqProofs only [go_sem]) (by simp -implicitDefEqProofs only [go_sem]) ?_
   simp -implicitDefEqProofs only [go_sem]
   rw [show belowS (belowS (newCur code) 20) 4 = rcC code from rfl]
   have en : (((belowV (rcC code) 10).toNat : Nat) : Int) = belowV (rcC code) 10 := by omega
   have o3 : (belowS (rcC code) 10).Ok := belowS_ok o2 10
   rw [show rcH code = ⟨#[]⟩ from if_pos k2] at hh ⊢
   rw [<- en]
   have hn : (belowV (rcC code) 10).toNat <= 9 := by omega
   generalize (belowV (rcC code) 10).toNat = N at hn ⊢
   have hw := hh.2
   generalize (⟨#[]⟩ : ByteArray) = w0 at hw ⊢
   generalize hA0 : lnF N (belowS (rcC code) 10) w0 = A
   refine T.loopW mixed [3, 4, 6] (fun mm vs es => ∃ (y : DCur) (w : ByteArray) (i : Nat), vs = [.at (.bx 100 0 0), .at (.v (.string w)), .at (.v (.int .i64 (i : Nat)))] /\ es = [.box 0 y.ats] /\ mm = i /\ i <= 9 /\ y.Ok /\ w.size + 8 * i <= 96 /\ lnF i y w = A) N ?_ ?_
   ·simp -implicitDefEqProofs only [go_sem]
    exact ⟨belowS (rcC code) 10, w0, N, ⟨rfl, rfl⟩, rfl, rfl, hn, o3, by omega, hA0⟩
   rintro q _ _ ⟨y, w, i, rfl, rfl, rfl, hi, hy, hs, hA⟩
   simp -implicitDefEqProofs only [go_sem]
   refine ⟨fun hp => ?_, fun hp => ?_⟩
   ·obtain ⟨k, rfl⟩ : ∃ k, q = k + 1 := ⟨q - 1, by omega⟩
    rw [lnF] at hA
    refine callXNB [100] [] (spec_l40Line y hy) (by decide) (by simp -implicitDefEqProofs only [go_sem]) (by simp -implicitDefEqProofs only [go_sem]) ?_
    simp -implicitDefEqProofs only [go_sem]
    have hv := lnV_len y
    exact ⟨by omega, by show w.size + (lnV y).size + 1 <= _; omega, k, by omega, lnS y, w ++ lnV y ++ ⟨#[10]⟩, k, ⟨rfl, wrapH (by omega) (by omega) (by omega)⟩, rfl, rfl, by omega, lnS_ok hy, by rw [app_size, app_size]; show w.size + (lnV y).size + 1 + _ <= _; omega, hA⟩
   ·obtain rfl : q = 0 := by omega
    rw [lnF] at hA
    rw [hA]; exact hA0.symm
end Go.Abs
