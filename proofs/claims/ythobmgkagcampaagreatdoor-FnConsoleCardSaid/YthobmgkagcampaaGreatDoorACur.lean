/- The cursor over a draw's bytes, and what is drawn first. -/
import Derived.Test.YthobmgkagcampaaGreatDoorAConE
import Derived.Test.YthobmgkagcampaaGreatDoorAComesZ
import Derived.Test.YthobmgkagcampaaGreatDoorAReturn
import Derived.Test.YthobmgkagcampaaGreatDoorACurT
namespace Go.Abs
open Go.RowKit Go.Proofs
set_option linter.all false
set_option maxRecDepth 100000
set_option maxHeartbeats 4000000
theorem v0_i64' (l : List ByteArray) : I64 (v0 l) := by
 unfold v0 numsP
 cases h : (l.takeWhile okW) with
 | nil => unfold I64; simp
 | cons a l => have := valW_bnd (s := a); unfold I64; simp; omega
theorem ev_i64' (x : DLand) (w0 : ByteArray) (ws : List ByteArray) : I64 (eventZ x w0 ws).n := by
 have h0 : I64 (0 : Int) := by unfold I64; omega
 have h1 := v0_i64' ws
 have h2 := parseC_i64 x (ws.getD 0 kNone)
 unfold eventZ goE oneE noE
 repeat' split
 all_goals assumption
theorem conZ_cases (t : DTrek) (line : ByteArray) : (conZ t line).1 = t \/ (∃ e, I64 e.n /\ applyP t e /\ (conZ t line).1 = applyZ t e) \/ ∃ a b, newP a b /\ (conZ t line).1 = newC a b := by
 unfold conZ
 split
 ·exact .inl rfl
 ·split
  ·exact .inl rfl
  ·unfold conW doneN doneE
   split
   ·split
    ·rename_i h; exact .inr (.inr ⟨_, _, h, rfl⟩)
    ·exact .inl rfl
   ·split
    ·split
     ·rename_i h; exact .inr (.inl ⟨_, ev_i64' _ _ _, h, rfl⟩)
     ·exact .inl rfl
    ·split <;> exact .inl rfl
theorem newC_sane {a b : Int} (h : newP a b) : (newC a b).Sane := by
 have e : newC a b = newT exZ 0 ⟨a, b⟩ crewC := if_pos h
 rw [e]
 exact ⟨newT_fit (by decide) (by decide), (by show I64 0; unfold I64; omega), (by show I64 0; unfold I64; omega)⟩
end Go.Abs
namespace Go.Abs
open Go.RowKit Go.Proofs
set_option linter.all false
set_option maxRecDepth 100000
section
variable {t : DTrek} {e : DEvent}
theorem dayR_keep {p : DParty} {l : List DDepot} {Q : Prop} : (trekP t -> trekP (dayR t p l Q)) /\ (¬ trekP t -> dayR t p l Q = t) := by
 unfold dayR
 split
 ·rename_i h; exact ⟨fun _ => h.2.2, fun k => absurd h.2.1 k⟩
 ·exact ⟨fun h => h, fun _ => rfl⟩
theorem putR_keep {p : DParty} {l : List DDepot} {Q : Prop} : (trekP t -> trekP (putR t p l Q)) /\ (¬ trekP t -> putR t p l Q = t) := by
 unfold putR
 split
 ·rename_i h; exact ⟨fun _ => h.2.2, fun k => absurd h.2.1 k⟩
 ·exact ⟨fun h => h, fun _ => rfl⟩
theorem giveZ_keep {n : Int} : (trekP t -> trekP (giveZ t n)) /\ (¬ trekP t -> giveZ t n = t) := by
 unfold giveZ
 split
 ·rename_i h; exact ⟨fun _ => h.2.2.2, fun k => absurd h.2.2.1 k⟩
 ·exact ⟨fun h => h, fun _ => rfl⟩
theorem apply_keep : (trekP t -> trekP (applyZ t e)) /\ (¬ trekP t -> applyZ t e = t) := by
 by_cases h1 : e.kind = 1
 ·rw [(apply_1 h1).1]; exact giveZ_keep
 by_cases h2 : e.kind = 2
 ·rw [(apply_2 h2).1]; exact dayR_keep
 by_cases h3 : e.kind = 3
 ·rw [(apply_3 h3).1]; exact dayR_keep
 by_cases h4 : e.kind = 4
 ·rw [(apply_4 h4).1]; exact dayR_keep
 by_cases h5 : e.kind = 5
 ·rw [(apply_5 h5).1]; exact putR_keep
 by_cases h6 : e.kind = 6
 ·rw [(apply_6 h6).1]; exact putR_keep
 ·rw [(apply_0 h1 h2 h3 h4 h5 h6).1]; exact ⟨fun h => h, fun _ => rfl⟩
end
end Go.Abs
namespace Go.Abs
open Go.RowKit Go.Proofs
set_option linter.all false
set_option maxRecDepth 100000
set_option maxHeartbeats 4000000
theorem DepotsP.wfs' {x : DLand} {l : List DDepot} (h : DepotsP x l) : ∀ d ∈ l, d.wf := by
 intro d hd
 obtain ⟨i, hi⟩ := List.getElem?_of_mem hd
 have h1 := h.1 i d hi
 have h2 := h1.1.1
 have h3 := h2.1.len
 refine ⟨?_, ?_⟩
 ·have := h2.2; unfold I64; omega
 ·have := h1.2.1; unfold I64; omega
theorem told_trek {t : DTrek} (hs : t.Sane) (h : trekP t) : Told t := by
 have hl := h.2.2.2.2.2
 have hd := h.2.2.2.2.1
 refine ⟨hs, ⟨?_, ?_, ?_, ?_⟩, h.1.1.1.2.1.wfs'⟩
 ·unfold I64; omega
 ·have := hl.1; unfold I64; omega
 ·have := hl.2.1; unfold I64; omega
 ·have := hl.2.2.1; unfold I64; omega
theorem told_no : Told noT := by
 refine ⟨⟨⟨by decide, by decide, by decide, by decide, by decide, fun p hp => by cases hp⟩, (by show I64 0; unfold I64; omega), (by show I64 0; unfold I64; omega)⟩, ⟨?_, ?_, ?_, ?_⟩, fun d hd => by cases hd⟩ <;> (show I64 0; unfold I64; omega)
theorem told_con {t : DTrek} (line : ByteArray) (h : Told t) : Told (conZ t line).1 := by
 rcases conZ_cases t line with e | ⟨e, he, _, e2⟩ | ⟨a, b, h2, e2⟩
 ·rw [e]; exact h
 ·rw [e2]
  have hk := apply_keep (t := t) (e := e)
  by_cases ht : trekP t
  ·exact told_trek (applyZ_sane h.sane he) (hk.1 ht)
  ·rw [hk.2 ht]; exact h
 ·rw [e2]
  have e3 : newC a b = newT exZ 0 ⟨a, b⟩ crewC := if_pos h2
  exact told_trek (newC_sane h2) (by rw [e3]; exact h2)
noncomputable def conRun : DTrek -> List ByteArray -> List ByteArray
 | _, [] => []
 | t, s :: l => (conZ t s).2 :: conRun (conZ t s).1 l
theorem conRun_len : ∀ (l : List ByteArray) (t : DTrek), (conRun t l).length = l.length := by
 intro l
 induction l with
 | nil => intro t; rfl
 | cons s l ih => intro t; rw [conRun, List.length_cons, ih, List.length_cons]
noncomputable def conO (text : ByteArray) : List ByteArray := if 60 < (linesV text).length then [] else conRun noT (linesV text)
noncomputable def conB (text : ByteArray) : Bool := decide (¬ 60 < (linesV text).length)
end Go.Abs
namespace Go.Abs
open Go.RowKit Go.Proofs
set_option linter.all false
set_option maxRecDepth 100000
set_option maxHeartbeats 4000000
structure DCur where
 code : List Int
 i : Int
 h : Int
def byteRow (b : Int) : List Value := [.int .u8 b]
def DCur.ats (s : DCur) : List A := [.im 1 (s.code.map byteRow), .v (.int .i64 s.i), .v (.int .i64 s.h)]
attribute [go_sem] DCur.ats
theorem byteRow_len {b : Int} : (byteRow b).length = 1 := rfl
theorem byteRow_get {b : Int} : (byteRow b).getD 0 undef = .int .u8 b := rfl
attribute [go_sem] byteRow_len byteRow_get
structure DCur.Ok (s : DCur) : Prop where
 i : 0 <= s.i
 len : s.code.length <= 1099511627776
theorem wrapH {x y : Int} (h : x = y) (h1 : -9223372036854775808 <= x) (h2 : x <= 9223372036854775807) : IntKind.i64.wrap x = y := by rw [wrap64 h1 (by omega), h]
def byteH (h : Int) : Int := IntKind.i64.wrap (IntKind.i64.wrap (h * 6364136223846793005) + 1442695040888963407)
def byteX (h : Int) : Int := bAnd .i64 (bXor .i64 (bShr .i64 (byteH h) 33) (bShr .i64 (byteH h) 47)) 255
def byteV (s : DCur) : Int := if s.i < s.code.length then bAnd .i64 (IntKind.i64.wrap (byteX s.h + IntKind.i64.wrap (s.code.getD s.i.toNat 0))) 255 else byteX s.h
def byteS (s : DCur) : DCur := ⟨s.code, if s.i < s.code.length then s.i + 1 else s.i, byteH s.h⟩
theorem byteV_bnd (s : DCur) : 0 <= byteV s /\ byteV s <= 255 := by
 unfold byteV; split
 ·exact bAnd_255
 ·exact bAnd_255
theorem byteS_ok {s : DCur} (h : s.Ok) : (byteS s).Ok := by
 refine ⟨?_, h.len⟩
 have := h.i
 simp only [byteS]; split <;> omega
theorem spec_l1Byte (s : DCur) (h : s.Ok) : SC Tryz.prog 113 [.at (.bx 0 0 0)] [.box 0 s.ats] (.at (.v (.int .i64 (byteV s)))) [.box 0 (byteS s).ats] := by
 refine SC.of_M mixed Tryz.func113 (by kernel_rfl) rfl Tryz.results113 _ Tryz.ntmps113 (by simp) (by simp) ?_
 simp -implicitDefEqProofs only [go_sem, invOf]
 refine ⟨some [], by decide +kernel, ?_⟩
 simp -implicitDefEqProofs only [go_sem]
 refine ⟨some [], by decide +kernel, ?_⟩
 simp -implicitDefEqProofs only [go_sem]
 have h0 := h.i
 have h1 := h.len
 refine ⟨fun hi => ?_, fun hi => ?_⟩
 ·refine ⟨some [], by decide +kernel, ?_⟩
  simp -implicitDefEqProofs only [go_sem]
  refine ⟨by omega, fun c hc => ?_⟩
  rw [wrapH (show s.i + 1 = s.i + 1 from rfl) (by omega) (by omega)]
  rw [byteV, byteS, if_pos hi, if_pos hi, List.getD_eq_getElem?_getD, hc]
  exact ⟨rfl, rfl⟩
 ·rw [byteV, byteS, if_neg hi, if_neg hi]
  exact ⟨rfl, rfl⟩
def belowV (s : DCur) (n : Int) : Int := if n <= 0 then 0 else if n <= 256 then (byteV s).tmod n else (byteV s * 65536 + byteV (byteS s) * 256 + byteV (byteS (byteS s))).tmod n
def belowS (s : DCur) (n : Int) : DCur := if n <= 0 then s else if n <= 256 then byteS s else byteS (byteS (byteS s))
theorem belowV_bnd (s : DCur) (n : Int) : 0 <= belowV s n /\ (0 < n -> belowV s n < n) /\ (n <= 0 -> belowV s n = 0) := by
 have h1 := byteV_bnd s; have h2 := byteV_bnd (byteS s); have h3 := byteV_bnd (byteS (byteS s))
 unfold belowV
 split
 ·exact ⟨by omega, by omega, fun _ => rfl⟩
 ·split
  ·rw [Int.tmod_eq_emod_of_nonneg (by omega)]
   exact ⟨Int.emod_nonneg _ (by omega), fun hn => Int.emod_lt_of_pos _ hn, by omega⟩
  ·rw [Int.tmod_eq_emod_of_nonneg (by omega)]
   exact ⟨Int.emod_nonneg _ (by omega), fun hn => Int.emod_lt_of_pos _ hn, by omega⟩
theorem belowS_ok {s : DCur} (h : s.Ok) (n : Int) : (belowS s n).Ok := by
 unfold belowS; split
 ·exact h
 ·split
  ·exact byteS_ok h
  ·exact byteS_ok (byteS_ok (byteS_ok h))
theorem spec_l1Below (s : DCur) (n : Int) (h : s.Ok) : SC Tryz.prog 37 [.at (.bx 0 0 0), .at (.v (.int .i64 n))] [.box 0 s.ats] (.at (.v (.int .i64 (belowV s n)))) [.box 0 (belowS s n).ats] := by
 refine SC.of_M mixed Tryz.func37 (by kernel_rfl) rfl Tryz.results37 _ Tryz.ntmps37 (by simp) (by simp) ?_
 simp -implicitDefEqProofs only [go_sem, invOf]
 refine ⟨fun h0 => ?_, fun h0 => ⟨fun h1 => ?_, fun h1 => ?_⟩⟩
 ·rw [belowV, belowS, if_pos h0, if_pos h0]; exact ⟨rfl, rfl⟩
 ·refine callXN [0] (spec_l1Byte s h) (by decide) (by simp -implicitDefEqProofs only [go_sem]) ?_
  simp -implicitDefEqProofs only [go_sem]
  rw [belowV, belowS, if_neg h0, if_neg h0, if_pos h1, if_pos h1]; exact ⟨by omega, rfl, rfl⟩
 ·refine callXN [0] (spec_l1Byte s h) (by decide) (by simp -implicitDefEqProofs only [go_sem]) ?_
  simp -implicitDefEqProofs only [go_sem]
  refine callXN [0] (spec_l1Byte (byteS s) (byteS_ok h)) (by decide) (by simp -implicitDefEqProofs only [go_sem]) ?_
  simp -implicitDefEqProofs only [go_sem]
  refine callXN [0] (spec_l1Byte (byteS (byteS s)) (byteS_ok (byteS_ok h))) (by decide) (by simp -implicitDefEqProofs only [go_sem]) ?_
  simp -implicitDefEqProofs only [go_sem]
  have b1 := byteV_bnd s
  have b2 := byteV_bnd (byteS s)
  have b3 := byteV_bnd (byteS (byteS s))
  rw [wrap64 (x := byteV s * 65536) (by omega) (by omega), wrap64 (x := byteV (byteS s) * 256) (by omega) (by omega), wrap64 (x := byteV s * 65536 + byteV (byteS s) * 256) (by omega) (by omega), wrap64 (by omega) (by omega)]
  rw [belowV, belowS, if_neg h0, if_neg h0, if_neg h1, if_neg h1]; exact ⟨by omega, rfl, rfl⟩
def onceV (s : DCur) (n : Int) : Bool := decide (belowV s n = 0)
theorem spec_l1Once (s : DCur) (n : Int) (h : s.Ok) : SC Tryz.prog 26 [.at (.bx 0 0 0), .at (.v (.int .i64 n))] [.box 0 s.ats] (.at (.v (.bool (onceV s n)))) [.box 0 (belowS s n).ats] := by
 refine SC.of_M mixed Tryz.func26 (by kernel_rfl) rfl Tryz.results26 _ Tryz.ntmps26 (by simp) (by simp) ?_
 simp -implicitDefEqProofs only [go_sem, invOf]
 refine callXN [0] (spec_l1Below s n h) (by decide) (by simp -implicitDefEqProofs only [go_sem]) ?_
 simp -implicitDefEqProofs only [go_sem]
 rfl
def intV (s : DCur) (l : List Int) : Int := l.getD (belowV s l.length).toNat 0
def intC (s : DCur) (l : List Int) : DCur := belowS s l.length
theorem intV_mem (s : DCur) {l : List Int} (h : l ≠ []) : intV s l ∈ l := by
 have h0 : 0 < l.length := List.length_pos_iff.2 h
 have hb := belowV_bnd s l.length
 have hi : (belowV s l.length).toNat < l.length := by have := hb.2.1 (by omega); omega
 rw [intV, List.getD_eq_getElem?_getD, List.getElem?_eq_getElem hi]
 exact List.getElem_mem hi
theorem spec_l1Int (s : DCur) (l : List Int) (h : s.Ok) (hl : l ≠ []) (hm : l.length <= 1048576) : SC Tryz.prog 245 [.at (.bx 0 0 0), .at (.im 1 (l.map intRow))] [.box 0 s.ats] (.at (.v (.int .i64 (intV s l)))) [.box 0 (intC s l).ats] := by
 refine SC.of_M mixed Tryz.func245 (by kernel_rfl) rfl Tryz.results245 _ Tryz.ntmps245 (by simp) (by simp) ?_
 simp -implicitDefEqProofs only [go_sem, invOf]
 refine callXN [0] (spec_l1Below s l.length h) (by decide) (by simp -implicitDefEqProofs only [go_sem]) ?_
 simp -implicitDefEqProofs only [go_sem]
 have hb := belowV_bnd s l.length
 have h0 : 0 < l.length := List.length_pos_iff.2 hl
 refine ⟨by have := hb.2.1 (by omega); omega, fun x hx => ?_⟩
 rw [intV, List.getD_eq_getElem?_getD, hx]; exact ⟨rfl, rfl⟩
def ruleV (s : DCur) : DRule := ⟨belowV (belowS s 6) (1 + belowV s 6), 1 + belowV s 6⟩
def ruleS (s : DCur) : DCur := belowS (belowS s 6) (1 + belowV s 6)
theorem spec_l6Rule (s : DCur) (h : s.Ok) : SC Tryz.prog 157 [.at (.bx 0 0 0)] [.box 0 s.ats] (.ag (ruleV s).ats) [.box 0 (ruleS s).ats] := by
 refine SC.of_M mixed Tryz.func157 (by kernel_rfl) rfl Tryz.results157 _ Tryz.ntmps157 (by simp) (by simp) ?_
 simp -implicitDefEqProofs only [go_sem, invOf]
 refine callXN [0] (spec_l1Below s 6 h) (by decide) (by simp -implicitDefEqProofs only [go_sem]) ?_
 simp -implicitDefEqProofs only [go_sem]
 have hb := belowV_bnd s 6
 have hb2 := hb.2.1 (by omega)
 rw [wrapH (show 1 + belowV s 6 = 1 + belowV s 6 from rfl) (by omega) (by omega)]
 refine callXN [0] (spec_l1Below (belowS s 6) (1 + belowV s 6) (belowS_ok h 6)) (by decide) (by simp -implicitDefEqProofs only [go_sem]) ?_
 simp -implicitDefEqProofs only [go_sem]
 exact ⟨⟨rfl, rfl⟩, rfl⟩
def newStep (h b : Int) : Int := bAnd .i64 (IntKind.i64.wrap (IntKind.i64.wrap (IntKind.i64.wrap (h * 137) + IntKind.i64.wrap b) + 11)) 1073741823
def newH (code : List Int) (i : Nat) : Int := (code.take i).foldl newStep (193017 + code.length)
def newCur (code : List Int) : DCur := ⟨code, 0, newH code 4000⟩
theorem newH_S {code : List Int} {i : Nat} {b : Int} (h : code[i]? = some b) : newH code (i + 1) = newStep (newH code i) b := by
 rw [newH, List.take_add_one, h, List.foldl_append]; rfl
theorem newCur_ok {code : List Int} (h : code.length <= 1099511627776) : (newCur code).Ok := ⟨Int.le_refl _, h⟩
def DCur.pcs (s : DCur) : List PC := [.im 1 (s.code.map byteRow), .v (.int .i64 s.i), .v (.int .i64 s.h)]
attribute [go_sem] DCur.pcs
theorem ownNil_fb {k : Nat} {cs : List PC} {rs : List ResultVar} {ws : List AV} {K1 : St -> Prop} {t : Nat -> AV} {m : Mem} : ownNil (.tmp k :: rs) (.at (.fb cs) :: ws) K1 ⟨t, m⟩ = ownNil rs ws K1 ⟨t, m⟩ := rfl
attribute [go_sem] ownNil_fb
theorem spec_l1New (code : List Int) (hl : code.length <= 1099511627776) : SC Tryz.prog 24 [.at (.im 1 (code.map byteRow))] [] (.at (.fb (newCur code).pcs)) [] := by
 refine SC.of_W mixed Tryz.func24 (by kernel_rfl) rfl Tryz.results24 _ Tryz.ntmps24 (by simp) ?_
 simp -implicitDefEqProofs only [go_sem]
 refine T.loopW mixed [0, 3, 4] (fun mm vs es => ∃ (i : Nat), vs = [.at (.im 1 (code.map byteRow)), .at (.v (.int .i64 (newH code i))), .at (.v (.int .i64 (i : Nat)))] /\ es = [] /\ mm + i = code.length /\ i <= 4000) code.length ?_ ?_
 ·simp -implicitDefEqProofs only [go_sem]
  exact ⟨0, ⟨by rw [wrap64 (by omega) (by omega)]; rfl, rfl⟩, rfl, by omega⟩
 rintro q _ _ ⟨i, rfl, rfl, hn, hi⟩
 simp -implicitDefEqProofs only [go_sem]
 refine ⟨fun h1 => ⟨fun h2 => ⟨by omega, fun b hb => ?_⟩, fun h2 => ?_⟩, fun h1 => ?_⟩
 ·exact ⟨q - 1, by omega, i + 1, ⟨(newH_S hb).symm, wrapH (by omega) (by omega) (by omega)⟩, by omega, by omega⟩
 ·rw [show i = 4000 by omega]; rfl
 ·have e : newH code i = newH code 4000 := by rw [newH, newH, List.take_of_length_le (by omega), List.take_of_length_le (by omega)]
  rw [e]; rfl
def crewF : Nat -> DCur -> Int -> List DMember -> List DMember × DCur
 | 0, s, _, l => (l, s)
 | k + 1, s, i, l =>
  if i <= 1 + belowV s 3 then
   crewF k (belowS (belowS (belowS s 3) 20) 2) (i + 1) (l ++ [⟨i, 10 + belowV (belowS s 3) 20, 1 + belowV (belowS (belowS s 3) 20) 2, false⟩])
  else (l, belowS s 3)
theorem spec_l33Crew (s : DCur) (h : s.Ok) : SC Tryz.prog 158 [.at (.bx 0 0 0)] [.box 0 s.ats] (.at (.fr 4 ((crewF 4 s 1 []).1.map DMember.row))) [.box 0 (crewF 4 s 1 []).2.ats] := by
 refine SC.of_M mixed Tryz.func158 (by kernel_rfl) rfl Tryz.results158 _ Tryz.ntmps158 (by simp) (by simp) ?_
 simp -implicitDefEqProofs only [go_sem, invOf]
 generalize hA : crewF 4 s 1 [] = A
 refine T.loopN mixed (show 1 <= 100 by decide) [0, 3, 4] (fun mm vs ex es => ∃ (y : DCur) (l : List DMember) (i : Nat), vs = [.at (.bx 0 0 0), .at (.ow 100 0 4 l.length), .at (.v (.int .i64 (i : Nat)))] /\ ex = [.box 0 y.ats] /\ es = [.arr 0 4 (l.map DMember.row)] /\ mm + i = 5 /\ (1 <= mm) /\ y.Ok /\ crewF mm y i l = A /\ l.length <= i) 4 ?_ ?_
 ·simp -implicitDefEqProofs only [go_sem, invOf]
  exact ⟨s, [], 1, ⟨rfl, rfl⟩, rfl, rfl, rfl, h, hA, by simp⟩
 rintro q _ _ _ ⟨y, l, i, rfl, rfl, rfl, hn, hq, hy, hA, hl⟩ -
 simp -implicitDefEqProofs only [go_sem, invOf]
 refine callXN [0] (spec_l1Below y 3 hy) (by decide) (by simp -implicitDefEqProofs only [go_sem]) ?_
 simp -implicitDefEqProofs only [go_sem, invOf]
 obtain ⟨k, rfl⟩ : ∃ k, q = k + 1 := ⟨q - 1, by omega⟩
 have h1 := belowV_bnd y 3
 have h1b := h1.2.1 (by omega)
 have o1 := belowS_ok hy 3
 have o2 := belowS_ok o1 20
 have o3 := belowS_ok o2 2
 have h2 := belowV_bnd (belowS y 3) 20
 have h2b := h2.2.1 (by omega)
 have h3 := belowV_bnd (belowS (belowS y 3) 20) 2
 have h3b := h3.2.1 (by omega)
 rw [wrap64 (x := 1 + belowV y 3) (by omega) (by omega)]
 refine ⟨fun hi => ?_, fun hi => ?_⟩
 ·rw [crewF, if_pos hi] at hA
  refine callXN [0] (spec_l1Below (belowS y 3) 20 o1) (by decide) (by simp -implicitDefEqProofs only [go_sem]) ?_
  simp -implicitDefEqProofs only [go_sem, invOf]
  refine callXN [0] (spec_l1Below (belowS (belowS y 3) 20) 2 o2) (by decide) (by simp -implicitDefEqProofs only [go_sem]) ?_
  simp -implicitDefEqProofs only [go_sem, invOf]
  rw [wrap64 (x := 10 + belowV (belowS y 3) 20) (by omega) (by omega), wrap64 (x := 1 + belowV (belowS (belowS y 3) 20) 2) (by omega) (by omega)]
  exact ⟨by unfold Room; omega, k, by omega, _, l ++ [⟨i, 10 + belowV (belowS y 3) 20, 1 + belowV (belowS (belowS y 3) 20) 2, false⟩], i + 1, ⟨by simp, wrapH (by omega) (by omega) (by omega)⟩, rfl, by simp [DMember.row], by omega, by omega, o3, by rw [Int.natCast_add]; exact hA, by simp; omega⟩
 ·rw [crewF, if_neg hi] at hA
  rw [<- hA]; exact ⟨rfl, rfl, rfl⟩
end Go.Abs
