/- What a line of the console does: the law of it. -/
import Derived.Test.YthobmgkagcampaaGreatDoorAConQ
import Derived.Test.YthobmgkagcampaaGreatDoorAConS
namespace Go.Abs
open Go.RowKit Go.Proofs
set_option linter.all false
set_option maxRecDepth 100000
set_option maxHeartbeats 4000000
abbrev kNew : ByteArray := ⟨#[110, 101, 119]⟩
abbrev kGive : ByteArray := ⟨#[103, 105, 118, 101]⟩
abbrev kGo : ByteArray := ⟨#[103, 111]⟩
abbrev kWait : ByteArray := ⟨#[119, 97, 105, 116]⟩
abbrev kHome : ByteArray := ⟨#[104, 111, 109, 101]⟩
abbrev kLay : ByteArray := ⟨#[108, 97, 121]⟩
abbrev kTake : ByteArray := ⟨#[116, 97, 107, 101]⟩
abbrev kWhat : ByteArray := ⟨#[119, 104, 97, 116]⟩
abbrev kOk : ByteArray := ⟨#[111, 107]⟩
abbrev kNo : ByteArray := ⟨#[110, 111]⟩
abbrev kDash : ByteArray := ⟨#[45]⟩
abbrev kNone : ByteArray := ⟨#[]⟩
def noE : DEvent := ⟨0, 0, false⟩
noncomputable def v0 (l : List ByteArray) : Int := (numsP l).getD 0 0
noncomputable def in01 (n : Int) : Bool := decide (0 <= n /\ n <= 1)
noncomputable def goE (x : DLand) (ws : List ByteArray) : DEvent :=
 if okN (ws.drop 1) = true /\ 0 <= parseC x (ws.getD 0 kNone) /\ in01 (v0 (ws.drop 1)) = true then ⟨2, parseC x (ws.getD 0 kNone), decide (v0 (ws.drop 1) = 1)⟩ else noE
noncomputable def oneE (w0 : ByteArray) (n : Int) : DEvent :=
 if w0 = kGive then ⟨1, n, false⟩ else if w0 = kLay then ⟨5, n, false⟩ else if w0 = kTake then ⟨6, n, false⟩
 else if w0 = kWait /\ in01 n = true then ⟨3, 0, decide (n = 1)⟩ else if w0 = kHome /\ in01 n = true then ⟨4, 0, decide (n = 1)⟩ else noE
noncomputable def eventZ (x : DLand) (w0 : ByteArray) (ws : List ByteArray) : DEvent :=
 if ws.length = 2 /\ w0 = kGo then goE x ws else if okN ws = true /\ (numsP ws).length = 1 then oneE w0 (v0 ws) else noE
noncomputable def doneE (t : DTrek) (e : DEvent) : DTrek × ByteArray := if applyP t e then (applyZ t e, kOk) else (t, kNo)
noncomputable def doneN (t : DTrek) (a b : Int) : DTrek × ByteArray := if newP a b then (newC a b, kOk) else (t, kNo)
noncomputable def conW (t : DTrek) (w0 : ByteArray) (ws : List ByteArray) : DTrek × ByteArray :=
 if okN ws = true /\ (numsP ws).length = 2 /\ w0 = kNew then doneN t ((numsP ws).getD 0 0) ((numsP ws).getD 1 0)
 else if 0 < (eventZ t.land w0 ws).kind then doneE t (eventZ t.land w0 ws)
 else if ws = [] then (t, tellZ t w0) else (t, kWhat)
noncomputable def conZ (t : DTrek) (line : ByteArray) : DTrek × ByteArray :=
 match wordsV line with
 | [] => (t, kWhat)
 | w0 :: ws => if 200 < line.size then (t, kWhat) else conW t w0 ws
def tblC : List (ByteArray × ByteArray) := [(kNew, ⟨#[78, 78]⟩), (kGive, ⟨#[78]⟩), (kGo, ⟨#[99, 83]⟩), (kWait, ⟨#[83]⟩), (kHome, ⟨#[83]⟩), (kLay, ⟨#[78]⟩), (kTake, ⟨#[78]⟩)]
noncomputable def impZ (t : DTrek) (w0 : ByteArray) (ws : List ByteArray) : DTrek × ByteArray :=
 match opnF t.land (lookL w0 tblC).data.toList ws with
 | some n => if lookL w0 tblC = kNone then (t, kWhat) else if (stepZ t w0 n).2 = true then ((stepZ t w0 n).1, kOk) else (t, kNo)
 | none => (t, kWhat)
theorem imp_none {t : DTrek} {w0 : ByteArray} {ws : List ByteArray} (h : opnF t.land (lookL w0 tblC).data.toList ws = none) : impZ t w0 ws = (t, kWhat) := by rw [impZ, h]
theorem imp_some {t : DTrek} {w0 : ByteArray} {ws : List ByteArray} {n : List Int} (h : opnF t.land (lookL w0 tblC).data.toList ws = some n) (hk : lookL w0 tblC ≠ kNone) : impZ t w0 ws = if (stepZ t w0 n).2 = true then ((stepZ t w0 n).1, kOk) else (t, kNo) := by
 rw [impZ, h]; exact if_neg hk
theorem op_N (x : DLand) (s : ByteArray) : opOk x 78 s = okW s /\ opVal x 78 s = valW s := by
 rw [opOk, opVal, if_neg (by decide), if_neg (by decide), if_neg (by decide), if_neg (by decide)]; exact ⟨rfl, rfl⟩
theorem op_S (x : DLand) (s : ByteArray) : opOk x 83 s = (okW s && decide (valW s <= 1)) /\ opVal x 83 s = valW s := by
 rw [opOk, opVal, if_pos rfl, if_pos rfl]; exact ⟨rfl, rfl⟩
theorem op_c (x : DLand) (s : ByteArray) : opOk x 99 s = decide (0 <= parseC x s) /\ opVal x 99 s = parseC x s := by
 rw [opOk, opVal, if_neg (by decide), if_pos rfl, if_neg (by decide), if_pos rfl]; exact ⟨rfl, rfl⟩
theorem valW_bnd {s : ByteArray} : 0 <= valW s /\ valW s <= 1000000000000 := by
 unfold valW
 cases h : parseZ s with
 | none => simp
 | some n => exact parseZ_bnd h
theorem okN_one (a : ByteArray) : okN [a] = okW a := by simp [okN]
theorem okN_two (a b : ByteArray) : okN [a, b] = (okW a && okW b) := by simp [okN]
theorem in01_val {s : ByteArray} : in01 (valW s) = decide (valW s <= 1) := by
 have := (valW_bnd (s := s)).1
 exact decide_eq_decide.2 ⟨fun h => h.2, fun h => ⟨this, h⟩⟩
theorem opn_1 {x : DLand} {k : UInt8} {a : ByteArray} : opnF x [k] [a] = if opOk x k a = true then some [opVal x k a] else none := by
 rw [opnF, opnF]; rfl
theorem opn_2 {x : DLand} {k k' : UInt8} {a b : ByteArray} : opnF x [k, k'] [a, b] = if opOk x k a = true /\ opOk x k' b = true then some [opVal x k a, opVal x k' b] else none := by
 rw [opnF, opn_1]
 by_cases h1 : opOk x k a = true
 ·by_cases h2 : opOk x k' b = true
  ·rw [if_pos h1, if_pos h2, if_pos ⟨h1, h2⟩]; rfl
  ·rw [if_pos h1, if_neg h2, if_neg fun h => h2 h.2]; rfl
 ·rw [if_neg h1, if_neg fun h => h1 h.1]
theorem evt_one {w0 : ByteArray} {n : Int} (hn : w0 ≠ kNew) (hg : w0 ≠ kGo) : evtW w0 [n] = if w0 = kGive then ⟨1, n, false⟩ else if w0 = kWait then ⟨3, 0, decide (n = 1)⟩ else if w0 = kHome then ⟨4, 0, decide (n = 1)⟩ else if w0 = kLay then ⟨5, n, false⟩ else ⟨6, n, false⟩ := by
 unfold evtW
 rw [if_neg hg]; rfl
theorem doneE_eq {t : DTrek} {w0 : ByteArray} {n : List Int} (h : w0 ≠ kNew) : (if (stepZ t w0 n).2 = true then ((stepZ t w0 n).1, kOk) else (t, kNo)) = doneE t (evtW w0 n) := by
 rw [step_evt h, doneE]
 simp only [decide_eq_true_eq]
theorem doneN_eq {t : DTrek} {w0 : ByteArray} {n : List Int} (h : w0 = kNew) : (if (stepZ t w0 n).2 = true then ((stepZ t w0 n).1, kOk) else (t, kNo)) = doneN t (n.getD 0 0) (n.getD 1 0) := by
 rw [step_new h, doneN]
 simp only [decide_eq_true_eq]
theorem look_0 {w0 : ByteArray} (h : w0 = kNew) : lookL w0 tblC = ⟨#[78, 78]⟩ := if_pos h
theorem look_1 {w0 : ByteArray} (h : w0 = kGive \/ w0 = kLay \/ w0 = kTake) : lookL w0 tblC = ⟨#[78]⟩ := by rcases h with rfl | rfl | rfl <;> decide
theorem look_2 {w0 : ByteArray} (h : w0 = kGo) : lookL w0 tblC = ⟨#[99, 83]⟩ := by subst h; decide
theorem look_3 {w0 : ByteArray} (h : w0 = kWait \/ w0 = kHome) : lookL w0 tblC = ⟨#[83]⟩ := by rcases h with rfl | rfl <;> decide
theorem look_n {w0 : ByteArray} (h0 : w0 ≠ kNew) (h1 : w0 ≠ kGive) (h2 : w0 ≠ kGo) (h3 : w0 ≠ kWait) (h4 : w0 ≠ kHome) (h5 : w0 ≠ kLay) (h6 : w0 ≠ kTake) : lookL w0 tblC = kNone := by
 unfold tblC lookL
 rw [if_neg h0, lookL, if_neg h1, lookL, if_neg h2, lookL, if_neg h3, lookL, if_neg h4, lookL, if_neg h5, lookL, if_neg h6]
 rfl
theorem con_what {t : DTrek} {w0 : ByteArray} {ws : List ByteArray} (h1 : ¬ (okN ws = true /\ (numsP ws).length = 2 /\ w0 = kNew)) (h2 : eventZ t.land w0 ws = noE) (h3 : ws ≠ []) : conW t w0 ws = (t, kWhat) := by
 rw [conW, if_neg h1, h2, if_neg (by decide), if_neg h3]
theorem con_evt {t : DTrek} {w0 : ByteArray} {ws : List ByteArray} {e : DEvent} (h1 : ¬ (okN ws = true /\ (numsP ws).length = 2 /\ w0 = kNew)) (h2 : eventZ t.land w0 ws = e) (h3 : 0 < e.kind) : conW t w0 ws = doneE t e := by
 rw [conW, if_neg h1, h2, if_pos h3]
theorem con_alone {t : DTrek} {w0 : ByteArray} : conW t w0 [] = (t, tellZ t w0) := by
 have h2 : eventZ t.land w0 [] = noE := by rw [eventZ, if_neg (by simp), if_neg (by simp [numsP])]
 rw [conW, if_neg (by simp [numsP]), h2, if_neg (by decide), if_pos rfl]
theorem imp_alone {t : DTrek} {w0 : ByteArray} : impZ t w0 [] = (t, kWhat) := by
 by_cases hk : lookL w0 tblC = kNone
 ·rw [impZ, hk]; rfl
 ·apply imp_none
  apply opnF_len
  intro e
  exact hk (ByteArray.ext (Array.ext' (List.eq_nil_of_length_eq_zero (by rw [<- e]; rfl))))
theorem numsP_len {ws : List ByteArray} (h : okN ws = true) : (numsP ws).length = ws.length := by rw [okN_len h, List.length_map]
theorem imp_con {t : DTrek} {w0 : ByteArray} {ws : List ByteArray} (hw : ws ≠ []) : impZ t w0 ws = conW t w0 ws := by
 by_cases h0 : w0 = kNew
 ·have hl := look_0 h0
  have hev : eventZ t.land w0 ws = noE := by
   rw [eventZ, if_neg fun h => by rw [h0] at h; exact absurd h.2 (by decide)]
   split
   ·rw [oneE, h0, if_neg (by decide), if_neg (by decide), if_neg (by decide), if_neg fun h => absurd h.1 (by decide), if_neg fun h => absurd h.1 (by decide)]
   ·rfl
  by_cases h2 : ws.length = 2
  ·obtain ⟨a, b, rfl⟩ : ∃ a b, ws = [a, b] := by
    match ws, h2 with
    | [a, b], _ => exact ⟨a, b, rfl⟩
   have ho : opnF t.land (lookL w0 tblC).data.toList [a, b] = if okW a = true /\ okW b = true then some [valW a, valW b] else none := by
    rw [hl]; show opnF t.land [78, 78] [a, b] = _
    rw [opn_2, (op_N t.land a).1, (op_N t.land b).1, (op_N t.land a).2, (op_N t.land b).2]
   by_cases hab : okW a = true /\ okW b = true
   ·rw [if_pos hab] at ho
    have hok : okN [a, b] = true := by rw [okN_two, hab.1, hab.2]; rfl
    rw [imp_some ho (by rw [hl]; decide), doneN_eq h0, conW, if_pos ⟨hok, by rw [numsP_len hok]; rfl, h0⟩, okN_len hok]
    rfl
   ·rw [if_neg hab] at ho
    rw [imp_none ho, con_what (fun h => hab (by have := h.1; rw [okN_two, Bool.and_eq_true] at this; exact this)) hev hw]
  ·have ho : opnF t.land (lookL w0 tblC).data.toList ws = none := opnF_len (by rw [hl]; exact h2)
   rw [imp_none ho, con_what (fun h => h2 (by rw [<- numsP_len h.1]; exact h.2.1)) hev hw]
 ·have hnn : ¬ (okN ws = true /\ (numsP ws).length = 2 /\ w0 = kNew) := fun h => h0 h.2.2
  have one : ∀ k : UInt8, ∀ a : ByteArray, lookL w0 tblC = ⟨#[k]⟩ -> opnF t.land (lookL w0 tblC).data.toList [a] = if opOk t.land k a = true then some [opVal t.land k a] else none := fun k a h => by
   rw [h]; exact opn_1
  have v1 : ∀ a, okW a = true -> v0 [a] = valW a := fun a h => by
   rw [v0, okN_len (by rw [okN_one]; exact h)]; rfl
  by_cases hg : w0 = kGo
  ·have hl := look_2 hg
   by_cases h2 : ws.length = 2
   ·obtain ⟨a, b, rfl⟩ : ∃ a b, ws = [a, b] := by
     match ws, h2 with
     | [a, b], _ => exact ⟨a, b, rfl⟩
    have ho : opnF t.land (lookL w0 tblC).data.toList [a, b] = if 0 <= parseC t.land a /\ (okW b = true /\ valW b <= 1) then some [parseC t.land a, valW b] else none := by
     rw [hl]; show opnF t.land [99, 83] [a, b] = _
     rw [opn_2, (op_c t.land a).1, (op_S t.land b).1, (op_c t.land a).2, (op_S t.land b).2]
     simp only [decide_eq_true_eq, Bool.and_eq_true]
    have hev : eventZ t.land w0 [a, b] = goE t.land [a, b] := by rw [eventZ, if_pos ⟨h2, hg⟩]
    by_cases hy : 0 <= parseC t.land a /\ (okW b = true /\ valW b <= 1)
    ·rw [if_pos hy] at ho
     have hgo : goE t.land [a, b] = ⟨2, parseC t.land a, decide (valW b = 1)⟩ := by
      have hv := v1 b hy.2.1
      rw [goE, show ([a, b] : List ByteArray).drop 1 = [b] from rfl, show ([a, b] : List ByteArray).getD 0 kNone = a from rfl, hv, if_pos ⟨by rw [okN_one]; exact hy.2.1, hy.1, by rw [in01_val]; exact decide_eq_true hy.2.2⟩]
     have hew : evtW w0 [parseC t.land a, valW b] = ⟨2, parseC t.land a, decide (valW b = 1)⟩ := evt_go (by rw [hg]; decide) hg
     rw [imp_some ho (by rw [hl]; decide), doneE_eq h0, hew, con_evt hnn (hev.trans hgo) (show (0 : Int) < 2 by decide)]
    ·rw [if_neg hy] at ho
     have hgo : goE t.land [a, b] = noE := by
      rw [goE, show ([a, b] : List ByteArray).drop 1 = [b] from rfl, show ([a, b] : List ByteArray).getD 0 kNone = a from rfl]
      rw [if_neg]
      rintro ⟨k1, k2, k3⟩
      rw [okN_one] at k1
      rw [v1 b k1, in01_val] at k3
      exact hy ⟨k2, k1, of_decide_eq_true k3⟩
     rw [imp_none ho, con_what hnn (hev.trans hgo) hw]
   ·have ho : opnF t.land (lookL w0 tblC).data.toList ws = none := opnF_len (by rw [hl]; exact h2)
    have hev : eventZ t.land w0 ws = noE := by
     rw [eventZ, if_neg fun h => h2 h.1]
     split
     ·rw [oneE, hg, if_neg (by decide), if_neg (by decide), if_neg (by decide), if_neg fun h => absurd h.1 (by decide), if_neg fun h => absurd h.1 (by decide)]
     ·rfl
    rw [imp_none ho, con_what hnn hev hw]
  ·have hev : eventZ t.land w0 ws = if okN ws = true /\ (numsP ws).length = 1 then oneE w0 (v0 ws) else noE := by rw [eventZ, if_neg fun h => hg h.2]
   have none1 : ∀ k : UInt8, lookL w0 tblC = ⟨#[k]⟩ -> ws.length ≠ 1 -> impZ t w0 ws = conW t w0 ws := fun k hl h1 => by
    have ho : opnF t.land (lookL w0 tblC).data.toList ws = none := opnF_len (by rw [hl]; exact h1)
    have hev2 : eventZ t.land w0 ws = noE := by rw [hev, if_neg fun h => h1 (by rw [<- numsP_len h.1]; exact h.2)]
    rw [imp_none ho, con_what hnn hev2 hw]
   have ev1 : ∀ a, ws = [a] -> okW a = true -> eventZ t.land w0 ws = oneE w0 (valW a) := fun a e h => by
    subst e
    rw [hev, if_pos ⟨by rw [okN_one]; exact h, by rw [numsP_len (by rw [okN_one]; exact h)]; rfl⟩, v1 a h]
   have ev0 : ∀ a, ws = [a] -> ¬ okW a = true -> eventZ t.land w0 ws = noE := fun a e h => by
    subst e
    rw [hev, if_neg fun k => h (by rw [<- okN_one]; exact k.1)]
   by_cases hN : w0 = kGive \/ w0 = kLay \/ w0 = kTake
   ·have hl := look_1 hN
    by_cases h1 : ws.length = 1
    ·obtain ⟨a, rfl⟩ : ∃ a, ws = [a] := by
      match ws, h1 with
      | [a], _ => exact ⟨a, rfl⟩
     have ho := one 78 a hl
     rw [(op_N t.land a).1, (op_N t.land a).2] at ho
     by_cases ha : okW a = true
     ·rw [if_pos ha] at ho
      have he := ev1 a rfl ha
      rw [imp_some ho (by rw [hl]; decide), doneE_eq h0, evt_one h0 hg]
      have hcon := con_evt hnn he
      unfold oneE at hcon
      rcases hN with rfl | rfl | rfl
      ·rw [if_pos rfl] at hcon ⊢
       exact (hcon (show (0 : Int) < 1 by decide)).symm
      ·rw [if_neg (by decide), if_pos rfl] at hcon
       rw [if_neg (by decide), if_neg (by decide), if_neg (by decide), if_pos rfl]
       exact (hcon (show (0 : Int) < 5 by decide)).symm
      ·rw [if_neg (by decide), if_neg (by decide), if_pos rfl] at hcon
       rw [if_neg (by decide), if_neg (by decide), if_neg (by decide), if_neg (by decide)]
       exact (hcon (show (0 : Int) < 6 by decide)).symm
     ·rw [if_neg ha] at ho
      rw [imp_none ho, con_what hnn (ev0 a rfl ha) hw]
    ·exact none1 78 hl h1
   ·by_cases hS : w0 = kWait \/ w0 = kHome
    ·have hl := look_3 hS
     by_cases h1 : ws.length = 1
     ·obtain ⟨a, rfl⟩ : ∃ a, ws = [a] := by
       match ws, h1 with
       | [a], _ => exact ⟨a, rfl⟩
      have ho := one 83 a hl
      rw [(op_S t.land a).1, (op_S t.land a).2] at ho
      by_cases ha : okW a = true
      ·have he := ev1 a rfl ha
       by_cases h01 : valW a <= 1
       ·rw [if_pos (by rw [ha, decide_eq_true h01]; rfl)] at ho
        have hin : in01 (valW a) = true := by rw [in01_val]; exact decide_eq_true h01
        rw [imp_some ho (by rw [hl]; decide), doneE_eq h0, evt_one h0 hg]
        have hcon := con_evt hnn he
        unfold oneE at hcon
        rcases hS with rfl | rfl
        ·rw [if_neg (by decide), if_neg (by decide), if_neg (by decide), if_pos ⟨rfl, hin⟩] at hcon
         rw [if_neg (by decide), if_pos rfl]
         exact (hcon (show (0 : Int) < 3 by decide)).symm
        ·rw [if_neg (by decide), if_neg (by decide), if_neg (by decide), if_neg fun h => absurd h.1 (by decide), if_pos ⟨rfl, hin⟩] at hcon
         rw [if_neg (by decide), if_neg (by decide), if_pos rfl]
         exact (hcon (show (0 : Int) < 4 by decide)).symm
       ·rw [if_neg (by rw [ha, decide_eq_false h01]; decide)] at ho
        have hin : ¬ in01 (valW a) = true := by rw [in01_val, decide_eq_false h01]; decide
        have hno : oneE w0 (valW a) = noE := by
         rw [oneE, if_neg fun h => hN (.inl h), if_neg fun h => hN (.inr (.inl h)), if_neg fun h => hN (.inr (.inr h)), if_neg fun h => hin h.2, if_neg fun h => hin h.2]
        rw [imp_none ho, con_what hnn (he.trans hno) hw]
      ·rw [if_neg (by rw [Bool.and_eq_true]; exact fun h => ha h.1)] at ho
       rw [imp_none ho, con_what hnn (ev0 a rfl ha) hw]
     ·exact none1 83 hl h1
    ·have hl := look_n h0 (fun h => hN (.inl h)) hg (fun h => hS (.inl h)) (fun h => hS (.inr h)) (fun h => hN (.inr (.inl h))) (fun h => hN (.inr (.inr h)))
     have ho : opnF t.land (lookL w0 tblC).data.toList ws = none := opnF_len (by
      rw [hl]; intro e; exact hw (List.eq_nil_of_length_eq_zero e))
     have hno : ∀ n, oneE w0 n = noE := fun n => by
      rw [oneE, if_neg fun h => hN (.inl h), if_neg fun h => hN (.inr (.inl h)), if_neg fun h => hN (.inr (.inr h)), if_neg fun h => hS (.inl h.1), if_neg fun h => hS (.inr h.1)]
     have hev2 : eventZ t.land w0 ws = noE := by
      rw [hev]; split
      ·exact hno _
      ·rfl
     rw [imp_none ho, con_what hnn hev2 hw]
end Go.Abs
