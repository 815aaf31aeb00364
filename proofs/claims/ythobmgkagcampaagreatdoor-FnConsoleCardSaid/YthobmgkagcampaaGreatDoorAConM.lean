/- A line of the console, as the program runs it. -/
import Derived.Test.YthobmgkagcampaaGreatDoorAConE
namespace Go.Abs
open Go.RowKit Go.Proofs
set_option linter.all false
set_option maxRecDepth 100000
set_option maxHeartbeats 4000000
theorem tail_1 {W ws : List ByteArray} {w0 : ByteArray} (h : W = w0 :: ws) : List.take (W.length - Int.toNat 1) (List.drop (Int.toNat 1) (List.map strRow W)) = ws.map strRow := by
 subst h
 rw [show Int.toNat 1 = 1 from rfl, List.map_cons, List.drop_succ_cons, List.drop_zero, List.take_of_length_le (by rw [List.length_map, List.length_cons]; omega)]
end Go.Abs
namespace Go.Abs
open Go.RowKit Go.Proofs
set_option linter.all false
set_option maxRecDepth 100000
set_option maxHeartbeats 4000000
theorem T.mapLookN {P : Program} {nt : Nat} {Q : Post} {σ : St} {id : Nat} {ops : Array Oper} {es : List (ByteArray × ByteArray)} {nm d d1 dk dv : Nat} {mty kt et : TypeId}
  (hm : P.underlying mty = some (.map kt et)) (hk : P.underlying kt = some .string) (hz : ∀ w, (zeroValue et).run P w = .ok (.string ByteArray.empty) w) (hkeys : (es.map (·.1)).Nodup) (hd : d < nt) (hdv : dv < nt)
  (h0 : ∃ o, ops[0]? = some o /\ o.dst = some d /\ o.op = .makeMap mty none /\ o.guard = none)
  (hi : ∀ j p, es[j]? = some p -> ∃ o, ops[1 + j]? = some o /\ o.dst = none /\ o.op = .insert mty (.tmp d) (.const (.string p.1)) (.const (.string p.2)) /\ o.guard = none)
  (hL : ∃ o, ops[1 + es.length + nm]? = some o /\ o.dst = some dv /\ o.op = .lookup mty (.tmp d1) (.tmp dk) false /\ o.guard = none)
  (hsize : 1 + es.length + nm + 1 <= ops.size)
  (h : ∀ mb, runC P 0 nt none ops ((ops.toList.drop (1 + es.length)).take nm) (fun σ1 => σ1.t d1 = mapV mb /\ ∃ s, σ1.t dk = .at (.v (.string s)) /\ runC P 0 nt none ops (ops.toList.drop (1 + es.length + nm + 1)) (Q .normal) ⟨upd σ1.t dv (.at (.v (.string (lookL s es)))), σ1.m⟩) ⟨upd σ.t d (mapV mb), σ.m⟩) :
  T P 0 nt (.region id ops false) Q σ := by
 have hml : ((ops.toList.drop (1 + es.length)).take nm).length = nm := by rw [List.length_take, List.length_drop, Array.length_toList (xs := ops)]; omega
 refine T.mapLook hm hk hz hkeys hd hdv h0 hi (mids := (ops.toList.drop (1 + es.length)).take nm) (lasts := ops.toList.drop (1 + es.length + nm + 1)) (d1 := d1) (dk := dk) (fun j o hj => ?_) (by rw [hml]; exact hL) (fun j o hj => ?_) (by rw [hml, List.length_drop, Array.length_toList (xs := ops)]; omega) h
 ·rw [List.getElem?_take] at hj
  split at hj
  ·rw [List.getElem?_drop, Array.getElem?_toList] at hj; exact hj
  ·cases hj
 ·rw [hml]
  rw [List.getElem?_drop, Array.getElem?_toList] at hj; exact hj
theorem tblC_len : tblC.length = 7 := rfl
def insAt (ops : Array Oper) (mty : TypeId) (d i : Nat) (k v : ByteArray) : Prop := ∃ o, ops[i]? = some o /\ o.dst = none /\ o.op = .insert mty (.tmp d) (.const (.string k)) (.const (.string v)) /\ o.guard = none
theorem tbl_ins {ops : Array Oper} {mty : TypeId} {d : Nat} (h0 : insAt ops mty d 1 kNew ⟨#[78, 78]⟩) (h1 : insAt ops mty d 2 kGive ⟨#[78]⟩) (h2 : insAt ops mty d 3 kGo ⟨#[99, 83]⟩) (h3 : insAt ops mty d 4 kWait ⟨#[83]⟩) (h4 : insAt ops mty d 5 kHome ⟨#[83]⟩) (h5 : insAt ops mty d 6 kLay ⟨#[78]⟩) (h6 : insAt ops mty d 7 kTake ⟨#[78]⟩) :
  ∀ j p, tblC[j]? = some p -> ∃ o, ops[1 + j]? = some o /\ o.dst = none /\ o.op = .insert mty (.tmp d) (.const (.string p.1)) (.const (.string p.2)) /\ o.guard = none := by
 intro j p hp
 rcases j with _ | _ | _ | _ | _ | _ | _ | j
 ·obtain rfl := Option.some.inj hp; exact h0
 ·obtain rfl := Option.some.inj hp; exact h1
 ·obtain rfl := Option.some.inj hp; exact h2
 ·obtain rfl := Option.some.inj hp; exact h3
 ·obtain rfl := Option.some.inj hp; exact h4
 ·obtain rfl := Option.some.inj hp; exact h5
 ·obtain rfl := Option.some.inj hp; exact h6
 ·rw [List.getElem?_eq_none (by rw [tblC_len]; omega)] at hp; cases hp
theorem con_long {t : DTrek} {line : ByteArray} (h : 200 < line.size) : conZ t line = (t, kWhat) := by
 unfold conZ
 split
 ·rfl
 ·rw [if_pos h]
theorem con_empty {t : DTrek} {line : ByteArray} (h : wordsV line = []) : conZ t line = (t, kWhat) := by rw [conZ, h]
theorem con_at {t : DTrek} {line w0 : ByteArray} {ws : List ByteArray} (h : wordsV line = w0 :: ws) (hs : ¬ 200 < line.size) : conZ t line = conW t w0 ws := by
 rw [conZ, h]; exact if_neg hs
theorem op_len {x : DLand} : ∀ {ks : List UInt8} {l : List ByteArray} {n : List Int}, opnF x ks l = some n -> n.length = ks.length /\ l.length = ks.length := by
 intro ks
 induction ks with
 | nil =>
  intro l n h
  cases l with
  | nil => obtain rfl := Option.some.inj h; exact ⟨rfl, rfl⟩
  | cons _ _ => cases h
 | cons k ks ih =>
  intro l n h
  cases l with
  | nil => cases h
  | cons s l =>
   rw [opnF] at h
   split at h
   ·cases ho : opnF x ks l with
    | none => rw [ho] at h; cases h
    | some m =>
     rw [ho] at h
     obtain rfl := Option.some.inj h
     have := ih ho
     simp only [List.length_cons]; omega
   ·cases h
theorem val_i64 (s : ByteArray) : I64 (valW s) := by have := valW_bnd (s := s); unfold I64; omega
theorem op_i64 {x : DLand} : ∀ {ks : List UInt8} {l : List ByteArray} {n : List Int}, opnF x ks l = some n -> ∀ c ∈ n, I64 c := by
 intro ks
 induction ks with
 | nil =>
  intro l n h
  cases l with
  | nil => obtain rfl := Option.some.inj h; intro c hc; cases hc
  | cons _ _ => cases h
 | cons k ks ih =>
  intro l n h
  cases l with
  | nil => cases h
  | cons s l =>
   rw [opnF] at h
   split at h
   ·cases ho : opnF x ks l with
    | none => rw [ho] at h; cases h
    | some m =>
     rw [ho] at h
     obtain rfl := Option.some.inj h
     intro c hc
     rcases List.mem_cons.1 hc with rfl | hc
     ·unfold opVal
      split
      ·exact val_i64 s
      ·split
       ·exact parseC_i64 x s
       ·exact val_i64 s
     ·exact ih ho c hc
   ·cases h
theorem zero_str (w : World) : (zeroValue 9).run Tryz.prog w = .ok (.string ByteArray.empty) w := by
 have hi : (Tryz.prog.info? 9).map (·.zero) = some (some (.string ByteArray.empty)) := by kernel_rfl
 cases h : Tryz.prog.info? 9 with
 | none => rw [h] at hi; cases hi
 | some i =>
  rw [h] at hi
  simp only [Option.map_some, Option.some.injEq] at hi
  simp [zeroValue, typeInfo, h, hi]
theorem impl_ConsoleLine (t : DTrek) (line : ByteArray) (h : Told t) (hl : line.size <= 1048576) : SC Tryz.prog 8 [.ag t.ats, .at (.v (.string line))] [] (.tp [.ag (conZ t line).1.frs, .at (.v (.string ((conZ t line).2)))]) [] := by
 have hf := h.sane.fit
 refine SC.of_TW Tryz.func8 (by kernel_rfl) rfl Tryz.results8 _ Tryz.ntmps8 (by simp) ?_
 refine T.seq (W.T mixed ?_)
 simp -implicitDefEqProofs only [go_sem]
 refine T.seq (W.T mixed ?_)
 simp -implicitDefEqProofs only [go_sem]
 refine callX [] ((impl_wordsOf line hl).frozen) (by simp -implicitDefEqProofs only [go_sem]) ?_
 simp -implicitDefEqProofs only [go_sem]
 generalize hW : wordsV line = Wd
 refine T.seq (W.T mixed ?_)
 simp -implicitDefEqProofs only [go_sem]
 refine ⟨fun hs => ⟨fun h0 => ?_, fun h0 => ?_⟩, fun hs => ?_⟩
 ·rw [con_empty (t := t) (hW.trans (List.eq_nil_of_length_eq_zero (by omega)))]
  refine callX [] (impl_Trek_copied t hf) (by simp -implicitDefEqProofs only [go_sem]) ?_
  simp -implicitDefEqProofs only [go_sem]
 ·obtain ⟨w0, ws, hWs⟩ : ∃ w0 ws, Wd = w0 :: ws := by
   cases Wd with
   | nil => exact absurd rfl h0
   | cons a l => exact ⟨a, l, rfl⟩
  rw [con_at (t := t) (hW.trans hWs) (by omega)]
  have hWl : Wd.length = ws.length + 1 := by rw [hWs]; rfl
  have hwl : Wd.length <= line.size + 1 := by rw [<- hW]; exact Nat.le_trans (List.length_filter_le _ _) (cut_count 32 line)
  have hW0 : ∀ x, Wd[Int.toNat 0]? = some x -> x = w0 := fun x hx => by rw [hWs] at hx; exact (Option.some.inj hx).symm
  refine T.seq (W.T mixed ?_)
  simp -implicitDefEqProofs only [go_sem]
  refine ⟨fun h1 => ?_, fun h1 => ?_⟩
  ·have hnil : ws = [] := List.eq_nil_of_length_eq_zero (by omega)
   refine ⟨some [], by decide +kernel, ?_⟩
   simp -implicitDefEqProofs only [go_sem]
   refine ⟨by omega, fun x hx => ?_⟩
   rw [hW0 x hx]
   refine callXQ [] (impl_answer t w0 h) (by simp -implicitDefEqProofs only [go_sem]) ?_
   simp -implicitDefEqProofs only [go_sem]
   cases ha : askZ t w0 with
   | none =>
    have hkey : conW t w0 ws = impZ t w0 ws := by rw [hnil, con_alone, tell_none ha, imp_alone]
    refine ⟨fun k => absurd k (by decide), fun _ => ?_⟩
    rw [hkey]
    refine T.seq (T.mapLookN (es := tblC) (nm := 4) (d := 43) (d1 := 44) (dk := 47) (dv := 48) Tryz.underlying72 Tryz.underlying9 (fun w => zero_str w) (by decide) (by decide) (by decide) ⟨_, rfl, rfl, rfl, rfl⟩ (tbl_ins ⟨_, rfl, rfl, rfl, rfl⟩ ⟨_, rfl, rfl, rfl, rfl⟩ ⟨_, rfl, rfl, rfl, rfl⟩ ⟨_, rfl, rfl, rfl, rfl⟩ ⟨_, rfl, rfl, rfl, rfl⟩ ⟨_, rfl, rfl, rfl, rfl⟩ ⟨_, rfl, rfl, rfl, rfl⟩) ⟨_, rfl, rfl, rfl, rfl⟩ (by decide) fun mb => runG_C ?_)
    simp only [tblC_len, List.drop_succ_cons, List.drop_zero, List.take_succ_cons, List.take_zero]
    simp -implicitDefEqProofs only [go_sem]
    refine ⟨by omega, fun z hz => ⟨z, rfl, ?_⟩⟩
    rw [hW0 z hz]
    refine T.seq (W.T mixed ?_)
    simp -implicitDefEqProofs only [go_sem]
    refine ⟨some [], by decide +kernel, ?_⟩
    simp -implicitDefEqProofs only [go_sem]
    refine ⟨by omega, ?_⟩
    rw [tail_1 hWs]
    refine callXQ [] ((impl_operands t.land (lookL w0 tblC) ws hf.cells (by omega)).frozen) (by simp -implicitDefEqProofs only [go_sem]) ?_
    simp -implicitDefEqProofs only [go_sem]
    refine T.seq (W.T mixed ?_)
    simp -implicitDefEqProofs only [go_sem]
    refine ⟨fun hk => ⟨fun ho => ?_, fun ho => ?_⟩, fun hk => ?_⟩
    ·have hn : opnF t.land (lookL w0 tblC).data.toList ws = none := by simpa using ho
     rw [imp_none hn]
     refine callX [] (impl_Trek_copied t hf) (by simp -implicitDefEqProofs only [go_sem]) ?_
     simp -implicitDefEqProofs only [go_sem]
    ·obtain ⟨n, hn⟩ := Option.isSome_iff_exists.1 ho
     rw [imp_some hn (tl_f hk), hn, Option.getD_some]
     have hnl := op_len hn
     have hK0 : 1 <= (lookL w0 tblC).data.toList.length := by
      rcases Nat.eq_zero_or_pos (lookL w0 tblC).data.toList.length with e | e
      ·exact absurd (ByteArray.ext (Array.ext' (List.eq_nil_of_length_eq_zero e))) (tl_f hk)
      ·exact e
     have hK2 : w0 = kNew \/ w0 = kGo -> 2 <= n.length := fun e => by
      rcases e with e | e
      ·rw [look_0 e] at hnl; exact Nat.le_of_eq hnl.1.symm
      ·rw [look_2 e] at hnl; exact Nat.le_of_eq hnl.1.symm
     refine T.seq (W.T mixed ?_)
     simp -implicitDefEqProofs only [go_sem]
     refine ⟨some [1192], by decide +kernel, ?_⟩
     simp -implicitDefEqProofs only [go_sem]
     refine ⟨by omega, fun z2 hz2 => ?_⟩
     rw [hW0 z2 hz2]
     refine callXQ [] (impl_step t w0 n h.sane (op_i64 hn) (by omega) (by omega) hK2) (by simp -implicitDefEqProofs only [go_sem]) ?_
     simp -implicitDefEqProofs only [go_sem]
     generalize stepZ t w0 n = S
     refine T.seq (W.T mixed ?_)
     simp -implicitDefEqProofs only [go_sem]
     refine ⟨fun hd => ?_, fun hd => ?_⟩
     ·rw [if_neg (by rw [hd]; decide)]
      refine callX [] (impl_Trek_copied t hf) (by simp -implicitDefEqProofs only [go_sem]) ?_
      simp -implicitDefEqProofs only [go_sem]
     ·rw [if_pos hd]
      refine W.T mixed ?_
      simp -implicitDefEqProofs only [go_sem]
      skip
    ·have hz : impZ t w0 ws = (t, kWhat) := by
      unfold impZ
      split
      ·rw [if_pos (tl_t hk)]
      ·rfl
     rw [hz]
     refine callX [] (impl_Trek_copied t hf) (by simp -implicitDefEqProofs only [go_sem]) ?_
     simp -implicitDefEqProofs only [go_sem]
   | some s =>
    have hc : conW t w0 ws = (t, showV s) := by rw [hnil, con_alone, tell_some ha]
    rw [hc]
    refine ⟨fun _ => ⟨fun e => ?_, fun e => ?_⟩, fun k => absurd k Bool.noConfusion⟩
    ·rw [show showV s = kDash from if_pos (tl_t e)]
     refine callX [] (impl_Trek_copied t hf) (by simp -implicitDefEqProofs only [go_sem]) ?_
     simp -implicitDefEqProofs only [go_sem]
    ·rw [show showV s = s from if_neg (tl_f e)]
     refine callX [] (impl_Trek_copied t hf) (by simp -implicitDefEqProofs only [go_sem]) ?_
     simp -implicitDefEqProofs only [go_sem]
     rfl
  ·have hkey : conW t w0 ws = impZ t w0 ws := (imp_con (by rintro rfl; exact h1 (by rw [hWl]; rfl))).symm
   rw [hkey]
   refine T.seq (T.mapLookN (es := tblC) (nm := 4) (d := 43) (d1 := 44) (dk := 47) (dv := 48) Tryz.underlying72 Tryz.underlying9 (fun w => zero_str w) (by decide) (by decide) (by decide) ⟨_, rfl, rfl, rfl, rfl⟩ (tbl_ins ⟨_, rfl, rfl, rfl, rfl⟩ ⟨_, rfl, rfl, rfl, rfl⟩ ⟨_, rfl, rfl, rfl, rfl⟩ ⟨_, rfl, rfl, rfl, rfl⟩ ⟨_, rfl, rfl, rfl, rfl⟩ ⟨_, rfl, rfl, rfl, rfl⟩ ⟨_, rfl, rfl, rfl, rfl⟩) ⟨_, rfl, rfl, rfl, rfl⟩ (by decide) fun mb => runG_C ?_)
   simp only [tblC_len, List.drop_succ_cons, List.drop_zero, List.take_succ_cons, List.take_zero]
   simp -implicitDefEqProofs only [go_sem]
   refine ⟨by omega, fun z hz => ⟨z, rfl, ?_⟩⟩
   rw [hW0 z hz]
   refine T.seq (W.T mixed ?_)
   simp -implicitDefEqProofs only [go_sem]
   refine ⟨some [], by decide +kernel, ?_⟩
   simp -implicitDefEqProofs only [go_sem]
   refine ⟨by omega, ?_⟩
   rw [tail_1 hWs]
   refine callXQ [] ((impl_operands t.land (lookL w0 tblC) ws hf.cells (by omega)).frozen) (by simp -implicitDefEqProofs only [go_sem]) ?_
   simp -implicitDefEqProofs only [go_sem]
   refine T.seq (W.T mixed ?_)
   simp -implicitDefEqProofs only [go_sem]
   refine ⟨fun hk => ⟨fun ho => ?_, fun ho => ?_⟩, fun hk => ?_⟩
   ·have hn : opnF t.land (lookL w0 tblC).data.toList ws = none := by simpa using ho
    rw [imp_none hn]
    refine callX [] (impl_Trek_copied t hf) (by simp -implicitDefEqProofs only [go_sem]) ?_
    simp -implicitDefEqProofs only [go_sem]
   ·obtain ⟨n, hn⟩ := Option.isSome_iff_exists.1 ho
    rw [imp_some hn (tl_f hk), hn, Option.getD_some]
    have hnl := op_len hn
    have hK0 : 1 <= (lookL w0 tblC).data.toList.length := by
     rcases Nat.eq_zero_or_pos (lookL w0 tblC).data.toList.length with e | e
     ·exact absurd (ByteArray.ext (Array.ext' (List.eq_nil_of_length_eq_zero e))) (tl_f hk)
     ·exact e
    have hK2 : w0 = kNew \/ w0 = kGo -> 2 <= n.length := fun e => by
     rcases e with e | e
     ·rw [look_0 e] at hnl; exact Nat.le_of_eq hnl.1.symm
     ·rw [look_2 e] at hnl; exact Nat.le_of_eq hnl.1.symm
    refine T.seq (W.T mixed ?_)
    simp -implicitDefEqProofs only [go_sem]
    refine ⟨some [1192], by decide +kernel, ?_⟩
    simp -implicitDefEqProofs only [go_sem]
    refine ⟨by omega, fun z2 hz2 => ?_⟩
    rw [hW0 z2 hz2]
    refine callXQ [] (impl_step t w0 n h.sane (op_i64 hn) (by omega) (by omega) hK2) (by simp -implicitDefEqProofs only [go_sem]) ?_
    simp -implicitDefEqProofs only [go_sem]
    generalize stepZ t w0 n = S
    refine T.seq (W.T mixed ?_)
    simp -implicitDefEqProofs only [go_sem]
    refine ⟨fun hd => ?_, fun hd => ?_⟩
    ·rw [if_neg (by rw [hd]; decide)]
     refine callX [] (impl_Trek_copied t hf) (by simp -implicitDefEqProofs only [go_sem]) ?_
     simp -implicitDefEqProofs only [go_sem]
    ·rw [if_pos hd]
     refine W.T mixed ?_
     simp -implicitDefEqProofs only [go_sem]
     skip
   ·have hz : impZ t w0 ws = (t, kWhat) := by
     unfold impZ
     split
     ·rw [if_pos (tl_t hk)]
     ·rfl
    rw [hz]
    refine callX [] (impl_Trek_copied t hf) (by simp -implicitDefEqProofs only [go_sem]) ?_
    simp -implicitDefEqProofs only [go_sem]
 ·rw [con_long (t := t) (by omega)]
  refine callX [] (impl_Trek_copied t hf) (by simp -implicitDefEqProofs only [go_sem]) ?_
  simp -implicitDefEqProofs only [go_sem]
end Go.Abs
